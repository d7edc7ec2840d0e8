/- VaultStays: maps and a row of maps beside a vault -/
import Derived.Test.YtleoelhhndeheaaGreatVStB
open Go Go.RowKit
open Go.Maps (Keyed has)
namespace Go.Proofs.YtleoelhhndeheaaGreat

theorem append_at {P : Program} {w : World} {base g cap : Nat} {t ty e : TypeId} {i : TypeInfo} {z : Value} {size bytes : Nat} (ht : P.underlying t = some (.slice e)) (hi : P.info? e = some i) (hz : i.zero = some z) (hsize : i.size = size) (hby : i.bytes = bytes)
    {n : Nat} {xs : List Value} (hown : w.ownsRow base e size (.slice (some ⟨g, 0, none⟩) n cap) n xs) {a : Addr} {m c : Nat} {news : List Value} (hl : news.length = m * size) (hnews : ∀ j u, news[j]? = some u → w.cell? (a.add j) = some u) (h1 : ∀ u ∈ news, u.oneCell' = true)
    (h63 : n + m ≤ 1000000) (hb : bytes ≤ 1000) {v' : Value} {w' : World} (hr : (Builtin.append_ #[t, t] ty #[.slice (some ⟨g, 0, none⟩) n cap, .slice (some a) m c]).run P w = .ok v' w') : ∃ g' c', v' = .slice (some ⟨g', 0, none⟩) (n + m) c' ∧ (g' = g ∨ g' = w.heap.size) ∧ n + m ≤ c' := by
  subst hsize
  subst hby
  rcases hown.2 with ⟨h, -⟩ | ⟨g1, cap1, cur, h, hbg, hg, hnc, hcm, hcs, htake⟩
  · cases h
  · obtain ⟨rfl, rfl⟩ : g = g1 ∧ cap = cap1 := by
      simp only [Value.slice.injEq, Option.some.injEq, Addr.mk.injEq] at h
      exact ⟨h.1.1, h.2.2⟩
    by_cases hroom : n + m ≤ cap
    · have hfit : n * i.size + news.length ≤ cur.size := by rw [hl, hcs, ← Nat.add_mul]; exact Nat.mul_le_mul_right _ hroom
      have h2 := run_append_room (P := P) w t ty e i ht hi g n cap cur hg a m c news hl hnews h1 hroom hfit
      rw [h2] at hr
      cases hr
      exact ⟨g, cap, rfl, .inl rfl, hroom⟩
    · have holds : ∀ j u, xs[j]? = some u → w.cell? ((⟨g, 0, none⟩ : Addr).add j) = some u := hown.cells (g := g) rfl
      have hmul : (n + m) * i.bytes ≤ 1000000 * 1000 := Nat.mul_le_mul h63 hb
      have h2 := run_append_grow (P := P) w t ty e i z ht hi hz ⟨g, 0, none⟩ n cap xs hown.1 holds a m c news hl hnews (by omega) (by omega) (growslice_fits (by omega) (by omega))
      rw [h2] at hr
      cases hr
      exact ⟨w.heap.size, _, rfl, .inr rfl, grownCap_ge _ _ _ _⟩
theorem wpList_append_at {P : Program} {w : World} {ops : Array Oper} {rest : List Oper} {o : Oper} {act : Act} {Q : Exit → Act → World → Prop} (hgd : o.guard = none) (s x : Operand) (t : TypeId)
    (ho : o.op = .call { callee := .builtin .append, args := #[s, x], argTypes := #[t, t] })
    (e : TypeId) (i : TypeInfo) (z : Value) (size bytes : Nat) (ht : P.underlying t = some (.slice e)) (hi : P.info? e = some i) (hz : i.zero = some z)
    (hsize : i.size = size) (hby : i.bytes = bytes) (hzs : z.cells.size = size) (hsz : 0 < size)
    (g cap n : Nat) (xs : List Value) (hs : act.eval s = .slice (some ⟨g, 0, none⟩) n cap) (hown : w.ownsRow 0 e size (.slice (some ⟨g, 0, none⟩) n cap) n xs)
    (ad : Addr) (m c : Nat) (news : List Value) (hx : act.eval x = .slice (some ad) m c) (hl : news.length = m * size) (hnews : ∀ j u, news[j]? = some u → w.cell? (ad.add j) = some u) (h1 : ∀ u ∈ news, u.oneCell' = true)
    (h63 : n + m ≤ 1000000) (hb : bytes ≤ 1000)
    (h : ∀ g' c' w', w'.ownsRow 0 e size (.slice (some ⟨g', 0, none⟩) (n + m) c') (n + m) (xs ++ news) → w.grownBy w' (some g) → (g' = g ∨ g' = w.heap.size) → n + m ≤ c' → wpList P ops Q rest (act.put o.dst (.slice (some ⟨g', 0, none⟩) (n + m) c')) w') : wpList P ops Q (o :: rest) act w := by
  refine wpList_plain hgd fun K hK => ?_
  have hmul : (n + m) * bytes ≤ 1000000 * 1000 := Nat.mul_le_mul h63 hb
  obtain ⟨v', w', hr, h2, h3, -⟩ := run_append_own (P := P) w 0 t o.type e i z size bytes ht hi hz hsize hby hzs hsz _ n xs hown ad m c news hl hnews h1 (by simp only [maxLen]; omega) (by omega) (Nat.zero_le _)
  obtain ⟨g', c', rfl, h5, h6⟩ := append_at ht hi hz hsize hby hown hl hnews h1 h63 hb hr
  unfold Oper.wp execOp
  simp only [ho, resolve, invoke, builtin, Sem.run_bind, Sem.run_pure, Result.andThen_ok, List.map_toArray, List.map_cons, List.map_nil, hs, hx, hr]
  exact hK _ _ (h g' c' w' h2 h3 h5 h6)


/-- a block of others' -/
structure Bes1 (w : World) (M : Dom) (K : Nat → Prop) (q : Nat) : Prop where
  x : M.X q
  nm : ¬ M q
  nk : ¬ K q
  lt : q < w.heap.size
theorem Bes1.lstep {w w' : World} {M M' : Dom} {K K' : Nat → Prop} {q : Nat} (h : Bes1 w M K q) (k : LStep M K w M' K' w') : Bes1 w' M' K' q := by
  have hl := h.lt
  refine ⟨k.oldX q h.x, fun hm => ?_, fun hb => ?_, Nat.lt_of_lt_of_le hl k.ext.size⟩
  · exact (k.new q hm).elim h.nm (fun e => by omega)
  · exact (k.newB q hb).elim h.nk (fun e => by omega)
theorem Bes1.same {w w' : World} {M M' : Dom} {K K' : Nat → Prop} {q : Nat} (h : Bes1 w M K q) (k : LStep M K w M' K' w') {o : Obj} (ho : w.heap[q]? = some o) : w'.heap[q]? = some o := k.ext.blk (fun hf => hf.elim h.nm h.nk) ho
/-- maps of texts, and a row of some of them, beside what may write M and K -/
structure Bsd (w1 w : World) (M : Dom) (K : Nat → Prop) (ms : List (Nat × DT)) (vm : Value) (tm : List (Nat × DT)) (os : List (Nat × Obj)) : Prop where
  since : Since w1 w M K
  maps : ∀ x, x ∈ ms ∨ x ∈ tm → Bes1 w M K x.1 ∧ IMap w x.1 4096 (strM x.2) ∧ w1.heap.size ≤ x.1
  row : ∃ g c, vm = .slice (some ⟨g, 0, none⟩) tm.length c ∧ w.ownsRow 0 32 1 vm tm.length (tm.map fun x => .map (some x.1)) ∧ Bes1 w M K g ∧ w1.heap.size ≤ g ∧ tm.length ≤ c ∧ (∀ x, x ∈ ms ∨ x ∈ tm → x.1 ≠ g) ∧ ∀ x ∈ os, x.1 ≠ g
  objs : ∀ x ∈ os, Bes1 w M K x.1 ∧ w.heap[x.1]? = some x.2 ∧ w1.heap.size ≤ x.1
section
variable {w1 w w' : World} {M M' : Dom} {K K' : Nat → Prop} {ms : List (Nat × DT)} {vm : Value} {tm : List (Nat × DT)} {os : List (Nat × Obj)}
theorem Bsd.lstep (h : Bsd w1 w M K ms vm tm os) (k : LStep M K w M' K' w') : Bsd w1 w' M' K' ms vm tm os := by
  obtain ⟨g, c, rfl, r1, r2, r3, r4, r5, r6⟩ := h.row
  refine ⟨h.since.lstep k, fun x hx => ?_, ⟨g, c, rfl, k.ext.owns (fun q hq hf => ?_) r1, r2.lstep k, r3, r4, r5, r6⟩, fun x hx => ?_⟩
  · obtain ⟨a, b, c⟩ := h.maps x hx
    exact ⟨a.lstep k, b.ext k.ext (fun hf => hf.elim a.nm a.nk), c⟩
  · cases hq
    exact hf.elim r2.nm r2.nk
  · obtain ⟨a, b, c⟩ := h.objs x hx
    exact ⟨a.lstep k, a.same k b, c⟩
theorem Bsd.below (h : Bsd w1 w M K ms vm tm os) (k : Below w.heap.size w w') : Bsd w1 w' M K ms vm tm os := h.lstep (LStep.of_below k)
theorem Bsd.forget (h : Bsd w1 w M K ms vm tm os) : Bsd w1 w M none' ms vm tm os := by
  obtain ⟨g, c, e, r1, r2, r3, r4, r5⟩ := h.row
  exact ⟨h.since.forget, fun x hx => ⟨⟨(h.maps x hx).1.x, (h.maps x hx).1.nm, fun hf => hf.elim, (h.maps x hx).1.lt⟩, (h.maps x hx).2⟩, ⟨g, c, e, r1, ⟨r2.x, r2.nm, fun hf => hf.elim, r2.lt⟩, r3, r4, r5⟩, fun x hx => ⟨⟨(h.objs x hx).1.x, (h.objs x hx).1.nm, fun hf => hf.elim, (h.objs x hx).1.lt⟩, (h.objs x hx).2⟩⟩
theorem Bsd.sub {ms' : List (Nat × DT)} (h : Bsd w1 w M K ms vm tm os) (hs : ∀ x ∈ ms', x ∈ ms ∨ x ∈ tm) : Bsd w1 w M K ms' vm tm os := by
  obtain ⟨g, c, e, r1, r2, r3, r4, r5, r6⟩ := h.row
  exact ⟨h.since, fun x hx => h.maps x (hx.elim (hs x) .inr), ⟨g, c, e, r1, r2, r3, r4, fun x hx => r5 x (hx.elim (hs x) .inr), r6⟩, h.objs⟩
/-- a map that is new -/
theorem Bsd.new (h : Bsd w1 w M K ms vm tm os) (hl : ∀ q, M q ∨ K q → q < w.heap.size) (k : Below w.heap.size w w') {g : Nat} (hg : w.heap.size ≤ g ∧ g < w'.heap.size) {D : DT} (hm : IMap w' g 4096 (strM D)) : Bsd w1 w' (M.addX fun q => q = g) K ((g, D) :: ms) vm tm os := by
  have h2 := h.below k
  obtain ⟨g0, c, e, r1, r2, r3, r4, r5, r7⟩ := h2.row
  have r6 := h.row
  have key : ∀ q, Bes1 w' M K q → Bes1 w' (M.addX fun q => q = g) K q := fun q hq => ⟨.inl hq.x, hq.nm, hq.nk, hq.lt⟩
  have hgn : ∀ q, M q ∨ K q → q ≠ g := fun q hq e => by have := hl q hq; omega
  refine ⟨h2.since.addX, fun x hx => ?_, ⟨g0, c, e, r1, key _ r2, r3, r4, fun x hx => ?_, r7⟩, fun x hx => ⟨key _ (h2.objs x hx).1, (h2.objs x hx).2⟩⟩
  · rcases hx with hx | hx
    · rcases List.mem_cons.1 hx with rfl | hx
      · exact ⟨⟨.inr rfl, fun hm => hgn g (.inl hm) rfl, fun hb => hgn g (.inr hb) rfl, hg.2⟩, hm, Nat.le_trans h.since.below.size hg.1⟩
      · exact ⟨key _ (h2.maps x (.inl hx)).1, (h2.maps x (.inl hx)).2⟩
    · exact ⟨key _ (h2.maps x (.inr hx)).1, (h2.maps x (.inr hx)).2⟩
  · rcases hx with hx | hx
    · rcases List.mem_cons.1 hx with rfl | hx
      · obtain ⟨g1, c1, e1, -, q2, -⟩ := r6
        rw [e] at e1
        simp only [Value.slice.injEq, Option.some.injEq, Addr.mk.injEq] at e1
        have := q2.lt
        show g ≠ g0
        omega
      · exact r5 x (.inl hx)
    · exact r5 x (.inr hx)
/-- the first map is written -/
theorem Bsd.wrote {g : Nat} {D D' : DT} (h : Bsd w1 w M K ((g, D) :: ms) vm tm os) (k : Ext (· = g) w w') (hm : IMap w' g 4096 (strM D')) (hg : ∀ x, x ∈ ms ∨ x ∈ tm → x.1 ≠ g) (ho : ∀ x ∈ os, x.1 ≠ g) : Bsd w1 w' M K ((g, D') :: ms) vm tm os := by
  have hs := k.size
  have h0 := h.maps (g, D) (.inl List.mem_cons_self)
  obtain ⟨g0, c, rfl, r1, r2, r3, r4, r5, r7⟩ := h.row
  have key : ∀ q, Bes1 w M K q → Bes1 w' M K q := fun q hq => ⟨hq.x, hq.nm, hq.nk, Nat.lt_of_lt_of_le hq.lt hs⟩
  refine ⟨⟨Below.ext h.since.below k (fun x hx => by subst hx; exact h0.2.2) h.since.below.size, h.since.new⟩, fun x hx => ?_, ⟨g0, c, rfl, k.owns (fun q hq hf => ?_) r1, key _ r2, r3, r4, fun x hx => ?_, r7⟩, fun x hx => ⟨key _ (h.objs x hx).1, k.blk (ho x hx) (h.objs x hx).2.1, (h.objs x hx).2.2⟩⟩
  · rcases hx with hx | hx
    · rcases List.mem_cons.1 hx with rfl | hx
      · exact ⟨key _ h0.1, hm, h0.2.2⟩
      · have h3 := h.maps x (.inl (List.mem_cons_of_mem _ hx))
        exact ⟨key _ h3.1, h3.2.1.ext k (hg x (.inl hx)), h3.2.2⟩
    · have h3 := h.maps x (.inr hx)
      exact ⟨key _ h3.1, h3.2.1.ext k (hg x (.inr hx)), h3.2.2⟩
  · cases hq
    exact r5 (g, D) (.inl List.mem_cons_self) hf.symm
  · rcases hx with hx | hx
    · rcases List.mem_cons.1 hx with rfl | hx
      · exact r5 (g, D) (.inl List.mem_cons_self)
      · exact r5 x (.inl (List.mem_cons_of_mem _ hx))
    · exact r5 x (.inr hx)
/-- a row of one map, new -/
theorem Bsd.one {m : Nat} {D : DT} (h : Bsd w1 w M K ms vm tm os) (hl : ∀ q, M q ∨ K q → q < w.heap.size) (hm : (m, D) ∈ ms ∨ (m, D) ∈ tm) : Bsd w1 (w.alloc (.cells #[.map (some m)] 32)) (M.addX fun q => q = w.heap.size) K ms (.slice (some ⟨w.heap.size, 0, none⟩) 1 1) [(m, D)] os := by
  have k : Below w.heap.size w (w.alloc (.cells #[.map (some m)] 32)) := (Below.refl _ _).alloc (Nat.le_refl _) _
  have h2 := h.below k
  have hM : ∀ x, x ∈ ms ∨ x ∈ [(m, D)] → x ∈ ms ∨ x ∈ tm := fun x hx => hx.elim .inl (fun hx => by
    obtain rfl := List.mem_singleton.1 hx
    exact hm)
  have key : ∀ q, Bes1 (w.alloc (.cells #[.map (some m)] 32)) M K q → Bes1 (w.alloc (.cells #[.map (some m)] 32)) (M.addX fun q => q = w.heap.size) K q := fun q hq => ⟨.inl hq.x, hq.nm, hq.nk, hq.lt⟩
  refine ⟨h2.since.addX, fun x hx => ?_, ⟨w.heap.size, 1, rfl, World.ownsRow_lit w #[.map (some m)] 1 (Nat.zero_le _) (by simp [maxLen]) rfl, ⟨.inr rfl, fun hm => by have := hl _ (.inl hm); omega, fun hm => by have := hl _ (.inr hm); omega, by simp⟩, h.since.below.size, Nat.le_refl _, fun x hx => ?_, fun x hx => ?_⟩, fun x hx => ⟨key _ (h2.objs x hx).1, (h2.objs x hx).2⟩⟩
  · exact ⟨key _ (h2.maps x (hM x hx)).1, (h2.maps x (hM x hx)).2⟩
  · have := (h.maps x (hM x hx)).1.lt
    omega
  · have := (h.objs x hx).1.lt
    omega
/-- one map more -/
theorem Bsd.more {g c g' c' n m : Nat} {D : DT} {o : Obj} (h : Bsd w1 w M K ms (.slice (some ⟨g, 0, none⟩) n c) tm os) (hl : ∀ q, M q ∨ K q → q < w.heap.size) (hm : (m, D) ∈ ms ∨ (m, D) ∈ tm)
    (O : w'.ownsRow 0 32 1 (.slice (some ⟨g', 0, none⟩) (n + 1) c') (n + 1) ((tm.map fun x => .map (some x.1)) ++ [.map (some m)])) (G : (w.alloc o).grownBy w' (some g)) (P : g' = g ∨ g' = w.heap.size + 1) (hc : n + 1 ≤ c') :
    Bsd w1 w' (M.addX fun q => q = g' ∧ w.heap.size ≤ q) K ms (.slice (some ⟨g', 0, none⟩) (n + 1) c') (tm ++ [(m, D)]) os ∧ Ext (fun q => q = g) w w' ∧ (∀ q, q = g' ∧ w.heap.size ≤ q → w.heap.size ≤ q ∧ q < w'.heap.size) ∧ Bes1 w M K g := by
  obtain ⟨g0, c0, e0, r1, r2, r3, r4, r5, r7⟩ := h.row
  obtain ⟨rfl, rfl, rfl⟩ : g = g0 ∧ n = tm.length ∧ c = c0 := by
    simp only [Value.slice.injEq, Option.some.injEq, Addr.mk.injEq] at e0
    exact ⟨e0.1.1, e0.2.1, e0.2.2⟩
  have hgl := r2.lt
  have sz : (w.alloc o).heap.size = w.heap.size + 1 := by simp
  have hx : Ext (fun q => q = g) w w' := by
    have k1 := Ext.of_below ((Below.refl w.heap.size w).alloc (Nat.le_refl _) o) (fun q => q = g)
    have k2 : Ext (fun q => q = g) (w.alloc o) w' := (Ext.of_grown G).mono (fun q _ hq => by simp only [Option.some.injEq] at hq; exact hq.symm)
    exact k1.trans k2 (fun _ _ h => h)
  have hs := hx.size
  have hg' := (O.lt g' rfl).2
  have hM : ∀ x, x ∈ ms ∨ x ∈ tm ++ [(m, D)] → x ∈ ms ∨ x ∈ tm := fun x hx => hx.elim .inl (fun hx => by
    rcases List.mem_append.1 hx with hx | hx
    · exact .inr hx
    · obtain rfl := List.mem_singleton.1 hx
      exact hm)
  have key : ∀ q, Bes1 w M K q → Bes1 w' (M.addX fun q => q = g' ∧ w.heap.size ≤ q) K q := fun q hq => ⟨.inl hq.x, hq.nm, hq.nk, Nat.lt_of_lt_of_le hq.lt hs⟩
  refine ⟨⟨⟨Below.ext h.since.below hx (fun x hx => by subst hx; exact r3) h.since.below.size, h.since.new⟩, fun x hxm => ?_, ⟨g', c', by simp, ?_, ?_, ?_, by simpa using hc, fun x hxm => ?_, fun x hxm => ?_⟩, fun x hxm => ⟨key _ (h.objs x hxm).1, hx.blk (r7 x hxm) (h.objs x hxm).2.1, (h.objs x hxm).2.2⟩⟩, hx, fun q hq => ⟨hq.2, by rw [hq.1]; exact hg'⟩, r2⟩
  · have h3 := h.maps x (hM x hxm)
    exact ⟨key _ h3.1, h3.2.1.ext hx (r5 x (hM x hxm)), h3.2.2⟩
  · rw [List.map_append, List.length_append]
    exact O
  · rcases P with rfl | hp
    · exact key _ r2
    · exact ⟨.inr ⟨rfl, by omega⟩, fun hm => by have := hl _ (.inl hm); omega, fun hm => by have := hl _ (.inr hm); omega, hg'⟩
  · have := h.since.below.size
    rcases P with rfl | hp
    · exact r3
    · omega
  · rcases P with rfl | hp
    · exact r5 x (hM x hxm)
    · have := (h.maps x (hM x hxm)).1.lt
      omega
  · rcases P with rfl | hp
    · exact r7 x hxm
    · have := (h.objs x hxm).1.lt
      omega
/-- another block to keep -/
theorem Bsd.obj (h : Bsd w1 w M K ms vm tm os) (hl : ∀ q, M q ∨ K q → q < w.heap.size) (k : Below w.heap.size w w') {g : Nat} (hg : w.heap.size ≤ g ∧ g < w'.heap.size) {o : Obj} (ho : w'.heap[g]? = some o) : Bsd w1 w' (M.addX fun q => q = g) K ms vm tm [(g, o)] := by
  have h2 := h.below k
  obtain ⟨g0, c, e, r1, r2, r3, r4, r5, r7⟩ := h2.row
  have r6 := h.row
  have key : ∀ q, Bes1 w' M K q → Bes1 w' (M.addX fun q => q = g) K q := fun q hq => ⟨.inl hq.x, hq.nm, hq.nk, hq.lt⟩
  have hgn : ∀ q, M q ∨ K q → q ≠ g := fun q hq e => by have := hl q hq; omega
  refine ⟨h2.since.addX, fun x hx => ⟨key _ (h2.maps x hx).1, (h2.maps x hx).2⟩, ⟨g0, c, e, r1, key _ r2, r3, r4, r5, fun x hx => ?_⟩, fun x hx => ?_⟩
  · obtain rfl := List.mem_singleton.1 hx
    obtain ⟨g1, c1, e1, -, q2, -⟩ := r6
    rw [e] at e1
    simp only [Value.slice.injEq, Option.some.injEq, Addr.mk.injEq] at e1
    have := q2.lt
    show g ≠ g0
    omega
  · obtain rfl := List.mem_singleton.1 hx
    exact ⟨⟨.inr rfl, fun hm => hgn g (.inl hm) rfl, fun hb => hgn g (.inr hb) rfl, hg.2⟩, ho, Nat.le_trans h.since.below.size hg.1⟩
end

/-- a vault that goes, and what is beside it -/
def VStay (w1 w : World) (d n : Nat) (lv : Int) (N v : Nat) (Rn Rk : Rcs) (T : List DT) (ms : List (Nat × DT)) (vm : Value) (tm : List (Nat × DT)) (os : List (Nat × Obj)) : Prop :=
  ∃ M B C l mb s L V, VAlv w M B C d l mb v n lv N T V s L Rn Rk ∧ Bsd w1 w M (fun q => B q ∨ C q) ms vm tm os
/-- a drum that may fall, and what is beside it; bk: it broke -/
def SStay (w1 w : World) (d n : Nat) (lv : Int) (N : Nat) (bk : Bool) (T : List DT) (ms : List (Nat × DT)) (vm : Value) (tm : List (Nat × DT)) (os : List (Nat × Obj)) : Prop :=
  ∃ M s, (DrumAt w M d s ∧ s.broken = bk ∧ s.n = n ∧ Safe s lv (2 + N) (AT (homes n lv) T)) ∧ Bsd w1 w M none' ms vm tm os
/-- a drum that fell: R will be seen -/
def FStay (w1 w : World) (d n : Nat) (lv : Int) (N : Nat) (up : Bool) (R : Rcs) (ms : List (Nat × DT)) (vm : Value) (tm : List (Nat × DT)) (os : List (Nat × Obj)) : Prop :=
  ∃ M V, Fel w M d n lv N V ∧ (up = true → FelU w M d n lv N V) ∧ RcsOk R (homes n lv) ∧ (∀ k z, laidT R k = some z → V k.toNat = z) ∧ Bsd w1 w M none' ms vm tm os
section
variable {w1 w w' : World} {d n : Nat} {lv : Int} {N v : Nat} {Rn Rk : Rcs} {T : List DT} {ms : List (Nat × DT)} {vm : Value} {tm : List (Nat × DT)} {os : List (Nat × Obj)}
theorem VAlv.lows {M : Dom} {B C : Nat → Prop} {l mb : Nat} {s : DS} {L : LS} {V : Nat → List Int} (h : VAlv w M B C d l mb v n lv N T V s L Rn Rk) : ∀ q, M q ∨ (B q ∨ C q) → q < w.heap.size := fun q hq => by
  obtain ⟨l1, l2, l3⟩ := h.vs.lows
  rcases hq with hq | hq | hq
  · exact l1 q hq
  · exact l2 q hq
  · exact l3 q hq
theorem VAlv.otherG {M : Dom} {B C F G : Nat → Prop} {l mb : Nat} {s : DS} {L : LS} {V : Nat → List Int} (h : VAlv w M B C d l mb v n lv N T V s L Rn Rk) (k : Ext F w w') (hF : ∀ q, F q → Bes1 w M (fun q => B q ∨ C q) q) (hG : ∀ q, G q → w.heap.size ≤ q ∧ q < w'.heap.size) : VAlv w' (M.addX G) B C d l mb v n lv N T V s L Rn Rk := by
  have k2 := h.vs.otherG (F := F) (G := G) k (fun q hq => (hF q hq).x) (fun q hq => ⟨⟨(hF q hq).nm, fun hb => (hF q hq).nk (.inl hb)⟩, fun hc => (hF q hq).nk (.inr hc)⟩) hG
  exact ⟨k2, h.st.sysTo k2.sys, h.okn, h.okk, h.hH, h.view⟩
theorem VStay.below (h : VStay w1 w d n lv N v Rn Rk T ms vm tm os) (k : Below w.heap.size w w') : VStay w1 w' d n lv N v Rn Rk T ms vm tm os := by
  obtain ⟨M, B, C, l, mb, s, L, V, h1, h2⟩ := h
  exact ⟨M, B, C, l, mb, s, L, V, h1.below k, h2.below k⟩
theorem VStay.le {N' : Nat} (h : VStay w1 w d n lv N v Rn Rk T ms vm tm os) (hN : N ≤ N') : VStay w1 w d n lv N' v Rn Rk T ms vm tm os := by
  obtain ⟨M, B, C, l, mb, s, L, V, h1, h2⟩ := h
  exact ⟨M, B, C, l, mb, s, L, V, h1.le hN, h2⟩
theorem VStay.sub {ms' : List (Nat × DT)} (h : VStay w1 w d n lv N v Rn Rk T ms vm tm os) (hs : ∀ x ∈ ms', x ∈ ms ∨ x ∈ tm) : VStay w1 w d n lv N v Rn Rk T ms' vm tm os := by
  obtain ⟨M, B, C, l, mb, s, L, V, h1, h2⟩ := h
  exact ⟨M, B, C, l, mb, s, L, V, h1, h2.sub hs⟩
theorem VStay.since (h : VStay w1 w d n lv N v Rn Rk T ms vm tm os) : Below w1.heap.size w1 w := by
  obtain ⟨M, B, C, l, mb, s, L, V, h1, h2⟩ := h
  exact h2.since.below
theorem VStay.okn (h : VStay w1 w d n lv N v Rn Rk T ms vm tm os) : RcsOk Rn (homes n lv) := by
  obtain ⟨M, B, C, l, mb, s, L, V, h1, h2⟩ := h
  exact h1.okn
theorem VStay.okk (h : VStay w1 w d n lv N v Rn Rk T ms vm tm os) : RcsOk Rk (homes n lv) := by
  obtain ⟨M, B, C, l, mb, s, L, V, h1, h2⟩ := h
  exact h1.okk
theorem VStay.imap (h : VStay w1 w d n lv N v Rn Rk T ms vm tm os) {g : Nat} {D : DT} (hx : (g, D) ∈ ms ∨ (g, D) ∈ tm) : IMap w g 4096 (strM D) := by
  obtain ⟨M, B, C, l, mb, s, L, V, h1, h2⟩ := h
  exact (h2.maps _ hx).2.1
theorem VStay.lt (h : VStay w1 w d n lv N v Rn Rk T ms vm tm os) {x : Nat × DT} (hx : x ∈ ms ∨ x ∈ tm) : x.1 < w.heap.size := by
  obtain ⟨M, B, C, l, mb, s, L, V, h1, h2⟩ := h
  exact (h2.maps _ hx).1.lt
theorem VStay.new (h : VStay w1 w d n lv N v Rn Rk T ms vm tm os) (k : Below w.heap.size w w') {g : Nat} (hg : w.heap.size ≤ g ∧ g < w'.heap.size) {D : DT} (hm : IMap w' g 4096 (strM D)) : VStay w1 w' d n lv N v Rn Rk T ((g, D) :: ms) vm tm os := by
  obtain ⟨M, B, C, l, mb, s, L, V, h1, h2⟩ := h
  exact ⟨M.addX fun q => q = g, B, C, l, mb, s, L, V, h1.otherG (F := fun _ => False) (Ext.of_below k _) (fun q hq => hq.elim) (fun q hq => by subst hq; exact hg), h2.new h1.lows k hg hm⟩
theorem VStay.wrote {g : Nat} {D D' : DT} (h : VStay w1 w d n lv N v Rn Rk T ((g, D) :: ms) vm tm os) (k : Ext (· = g) w w') (hm : IMap w' g 4096 (strM D')) (hg : ∀ x, x ∈ ms ∨ x ∈ tm → x.1 ≠ g) (ho : ∀ x ∈ os, x.1 ≠ g) : VStay w1 w' d n lv N v Rn Rk T ((g, D') :: ms) vm tm os := by
  obtain ⟨M, B, C, l, mb, s, L, V, h1, h2⟩ := h
  have hX : (M.addX fun _ => False) = M := by unfold Dom.addX; simp
  have h3 := h1.otherG (G := fun _ => False) k (fun q hq => by subst hq; exact (h2.maps (q, D) (.inl List.mem_cons_self)).1) (fun q hq => hq.elim)
  rw [hX] at h3
  exact ⟨M, B, C, l, mb, s, L, V, h3, h2.wrote k hm hg ho⟩
theorem VStay.one {m : Nat} {D : DT} (h : VStay w1 w d n lv N v Rn Rk T ms vm tm os) (hm : (m, D) ∈ ms ∨ (m, D) ∈ tm) : VStay w1 (w.alloc (.cells #[.map (some m)] 32)) d n lv N v Rn Rk T ms (.slice (some ⟨w.heap.size, 0, none⟩) 1 1) [(m, D)] os := by
  obtain ⟨M, B, C, l, mb, s, L, V, h1, h2⟩ := h
  exact ⟨_, B, C, l, mb, s, L, V, h1.otherG (F := fun _ => False) (G := fun q => q = w.heap.size) (Ext.of_below ((Below.refl _ _).alloc (Nat.le_refl _) _) _) (fun q hq => hq.elim) (fun q hq => by subst hq; exact ⟨Nat.le_refl _, by simp⟩), h2.one h1.lows hm⟩
theorem VStay.obj (h : VStay w1 w d n lv N v Rn Rk T ms vm tm os) (k : Below w.heap.size w w') {g : Nat} (hg : w.heap.size ≤ g ∧ g < w'.heap.size) {o : Obj} (ho : w'.heap[g]? = some o) : VStay w1 w' d n lv N v Rn Rk T ms vm tm [(g, o)] := by
  obtain ⟨M, B, C, l, mb, s, L, V, h1, h2⟩ := h
  exact ⟨M.addX fun q => q = g, B, C, l, mb, s, L, V, h1.otherG (F := fun _ => False) (Ext.of_below k _) (fun q hq => hq.elim) (fun q hq => by subst hq; exact hg), h2.obj h1.lows k hg ho⟩
theorem VStay.ob {g : Nat} {o : Obj} (h : VStay w1 w d n lv N v Rn Rk T ms vm tm [(g, o)]) : w.heap[g]? = some o := by
  obtain ⟨M, B, C, l, mb, s, L, V, h1, h2⟩ := h
  exact (h2.objs _ (List.mem_singleton.2 rfl)).2.1
theorem SStay.ob {bk : Bool} {g : Nat} {o : Obj} (h : SStay w1 w d n lv N bk T ms vm tm [(g, o)]) : w.heap[g]? = some o := by
  obtain ⟨M, s, h1, h2⟩ := h
  exact (h2.objs _ (List.mem_singleton.2 rfl)).2.1
theorem FStay.ob {up : Bool} {R : Rcs} {g : Nat} {o : Obj} (h : FStay w1 w d n lv N up R ms vm tm [(g, o)]) : w.heap[g]? = some o := by
  obtain ⟨M, V, h1, h2, h3, h4, h5⟩ := h
  exact (h5.objs _ (List.mem_singleton.2 rfl)).2.1
theorem FStay.le {N' : Nat} {up : Bool} {R : Rcs} (h : FStay w1 w d n lv N up R ms vm tm os) (hN : N ≤ N') : FStay w1 w d n lv N' up R ms vm tm os := by
  obtain ⟨M, V, ⟨s, u, r, P, q1, q2, q3, q4, q5, q6, q7, q8⟩, h2, h3, h4, h5⟩ := h
  refine ⟨M, V, ⟨s, u, r, P, q1, q2, q3, q4, q5, by omega, q7, q8⟩, fun hu => ?_, h3, h4, h5⟩
  obtain ⟨s, p1, p2, r, P, p3, p4, p5, p6, p7⟩ := h2 hu
  exact ⟨s, p1, p2, r, P, p3, p4, p5, by omega, p7⟩
theorem Ext.of_grown' {w w' : World} {g : Nat} (k : World.grownBy w w' (some g)) : Ext (· = g) w w' := (Ext.of_grown k).mono (fun q _ hq => by simp only [Option.some.injEq] at hq; exact hq.symm)
theorem FStay.since {up : Bool} {R : Rcs} (h : FStay w1 w d n lv N up R ms vm tm os) : Below w1.heap.size w1 w := by
  obtain ⟨M, V, h1, h2, h3, h4, h5⟩ := h
  exact h5.since.below
theorem VStay.rowD (h : VStay w1 w d n lv N v Rn Rk T ms vm tm os) : ∃ g c, vm = .slice (some ⟨g, 0, none⟩) tm.length c ∧ w.ownsRow 0 32 1 vm tm.length (tm.map fun x => .map (some x.1)) ∧ tm.length ≤ c ∧ g < w.heap.size := by
  obtain ⟨M, B, C, l, mb, s, L, V, h1, h2⟩ := h
  obtain ⟨g, c, e, r1, r2, r3, r4, r5⟩ := h2.row
  exact ⟨g, c, e, r1, r4, r2.lt⟩
theorem VStay.more {g c g' c' k m : Nat} {D : DT} {o : Obj} (h : VStay w1 w d n lv N v Rn Rk T ms (.slice (some ⟨g, 0, none⟩) k c) tm os) (hm : (m, D) ∈ ms ∨ (m, D) ∈ tm)
    (O : w'.ownsRow 0 32 1 (.slice (some ⟨g', 0, none⟩) (k + 1) c') (k + 1) ((tm.map fun x => .map (some x.1)) ++ [.map (some m)])) (G : (w.alloc o).grownBy w' (some g)) (P : g' = g ∨ g' = w.heap.size + 1) (hc : k + 1 ≤ c') : VStay w1 w' d n lv N v Rn Rk T ms (.slice (some ⟨g', 0, none⟩) (k + 1) c') (tm ++ [(m, D)]) os := by
  obtain ⟨M, B, C, l, mb, s, L, V, h1, h2⟩ := h
  obtain ⟨q1, q2, q3, q4⟩ := h2.more h1.lows hm O G P hc
  exact ⟨_, B, C, l, mb, s, L, V, h1.otherG q2 (fun q hq => by subst hq; exact q4) q3, q1⟩
/-! the same for a drum that broke -/
theorem SStay.more {g c g' c' k m : Nat} {D : DT} {o : Obj} {bk : Bool} (h : SStay w1 w d n lv N bk T ms (.slice (some ⟨g, 0, none⟩) k c) tm os) (hm : (m, D) ∈ ms ∨ (m, D) ∈ tm)
    (O : w'.ownsRow 0 32 1 (.slice (some ⟨g', 0, none⟩) (k + 1) c') (k + 1) ((tm.map fun x => .map (some x.1)) ++ [.map (some m)])) (G : (w.alloc o).grownBy w' (some g)) (P : g' = g ∨ g' = w.heap.size + 1) (hc : k + 1 ≤ c') : SStay w1 w' d n lv N bk T ms (.slice (some ⟨g', 0, none⟩) (k + 1) c') (tm ++ [(m, D)]) os := by
  obtain ⟨M, s, ⟨h1, h3⟩, h2⟩ := h
  obtain ⟨p, e, D1⟩ := h1
  obtain ⟨q1, q2, q3, q4⟩ := h2.more (fun q hq => hq.elim (D1.ml q) (fun hf => hf.elim)) hm O G P hc
  exact ⟨_, s, ⟨DrumAt.otherG ⟨p, e, D1⟩ q2 (fun q hq => by subst hq; exact q4.x) (fun q hq => by subst hq; exact q4.nm) q3, h3⟩, q1⟩
theorem SStay.new {bk : Bool} (h : SStay w1 w d n lv N bk T ms vm tm os) (k : Below w.heap.size w w') {g : Nat} (hg : w.heap.size ≤ g ∧ g < w'.heap.size) {D : DT} (hm : IMap w' g 4096 (strM D)) : SStay w1 w' d n lv N bk T ((g, D) :: ms) vm tm os := by
  obtain ⟨M, s, ⟨h1, h3⟩, h2⟩ := h
  obtain ⟨p, e, D1⟩ := h1
  exact ⟨_, s, ⟨DrumAt.otherG (F := fun _ => False) (G := fun q => q = g) ⟨p, e, D1⟩ (Ext.of_below k _) (fun q hq => hq.elim) (fun q hq => hq.elim) (fun q hq => by subst hq; exact hg), h3⟩, h2.new (fun q hq => hq.elim (D1.ml q) (fun hf => hf.elim)) k hg hm⟩
theorem SStay.sub {bk : Bool} {ms' : List (Nat × DT)} (h : SStay w1 w d n lv N bk T ms vm tm os) (hs : ∀ x ∈ ms', x ∈ ms ∨ x ∈ tm) : SStay w1 w d n lv N bk T ms' vm tm os := by
  obtain ⟨M, s, h1, h2⟩ := h
  exact ⟨M, s, h1, h2.sub hs⟩
theorem SStay.since {bk : Bool} (h : SStay w1 w d n lv N bk T ms vm tm os) : Below w1.heap.size w1 w := by
  obtain ⟨M, s, h1, h2⟩ := h
  exact h2.since.below
theorem SStay.imap {bk : Bool} (h : SStay w1 w d n lv N bk T ms vm tm os) {g : Nat} {D : DT} (hx : (g, D) ∈ ms ∨ (g, D) ∈ tm) : IMap w g 4096 (strM D) := by
  obtain ⟨M, s, h1, h2⟩ := h
  exact (h2.maps _ hx).2.1
theorem SStay.rowD {bk : Bool} (h : SStay w1 w d n lv N bk T ms vm tm os) : ∃ g c, vm = .slice (some ⟨g, 0, none⟩) tm.length c ∧ w.ownsRow 0 32 1 vm tm.length (tm.map fun x => .map (some x.1)) ∧ tm.length ≤ c ∧ g < w.heap.size := by
  obtain ⟨M, s, h1, h2⟩ := h
  obtain ⟨g, c, e, r1, r2, r3, r4, r5⟩ := h2.row
  exact ⟨g, c, e, r1, r4, r2.lt⟩
theorem SStay.le {N' : Nat} {bk : Bool} (h : SStay w1 w d n lv N bk T ms vm tm os) (hN : N ≤ N') : SStay w1 w d n lv N' bk T ms vm tm os := by
  obtain ⟨M, s, ⟨h1, h3, h4, h5⟩, h2⟩ := h
  exact ⟨M, s, ⟨h1, h3, h4, h5.mono (by omega) (fun _ h => h)⟩, h2⟩
/-! calls -/
theorem VStay.put (h : VStay w1 w d n lv N v Rn Rk T ms vm tm os) (id : Int) (hid' : -9223372036854775808 ≤ id ∧ id ≤ 9223372036854775807) (a : Option Addr) (len cap : Nat) (bs : List Int) (hr : Row w a (B8 bs)) (hbl : bs.length = len) (hlen : len ≤ 1000000) (hn : a = none → len = 0) (hby : IsBytes bs) :
    Calls Tryz.prog 15 #[.pointer (some ⟨v, 0, none⟩), .int .i64 id, .slice a len cap] w fun e w' => e = .returned (.int .i64 (putC Rn (homes n lv) false id len)) ∧ VStay w1 w' d n lv N v (Rn.putted (homes n lv) false id bs) Rk T ms vm tm os := by
  obtain ⟨M, B, C, l, mb, s, L, V, h1, h2⟩ := h
  refine (putA h1 id hid' a len cap bs hr hbl hlen hn hby).mono ?_
  rintro e w' ⟨e1, e2, e3⟩
  exact ⟨e1, M, B, C, l, mb, s, L, V, e2, h2.lstep e3⟩
theorem VStay.drop (h : VStay w1 w d n lv N v Rn Rk T ms vm tm os) (id : Int) (hid' : -9223372036854775808 ≤ id ∧ id ≤ 9223372036854775807) :
    Calls Tryz.prog 28 #[.pointer (some ⟨v, 0, none⟩), .int .i64 id] w fun e w' => e = .returned (.bool (Rn id).isSome) ∧ VStay w1 w' d n lv N v (Rn.drop id) Rk T ms vm tm os := by
  obtain ⟨M, B, C, l, mb, s, L, V, h1, h2⟩ := h
  refine (dropA h1 id hid').mono ?_
  rintro e w' ⟨e1, e2, e3⟩
  exact ⟨e1, M, B, C, l, mb, s, L, V, e2, h2.lstep e3⟩
theorem VStay.undo (h : VStay w1 w d n lv N v Rn Rk T ms vm tm os) :
    Calls Tryz.prog 30 #[.pointer (some ⟨v, 0, none⟩)] w fun e w' => e = .returned (.tuple #[]) ∧ VStay w1 w' d n lv N v Rk Rk T ms vm tm os := by
  obtain ⟨M, B, C, l, mb, s, L, V, h1, h2⟩ := h
  refine (undoA h1).mono ?_
  rintro e w' ⟨e1, M', C', e2, e3⟩
  exact ⟨e1, M', B, C', l, mb, s, L, V, e2, h2.lstep e3⟩
theorem VStay.brk (h : VStay w1 w d n lv N v Rn Rk T ms vm tm os) (a : Int) :
    Calls Tryz.prog 37 #[.pointer (some ⟨d, 0, none⟩), .int .i64 a] w fun e w' => e = .returned (.tuple #[]) ∧ VStay w1 w' d n lv N v Rn Rk T ms vm tm os := by
  obtain ⟨M, B, C, l, mb, s, L, V, h1, h2⟩ := h
  refine (breakVA h1 a).mono ?_
  rintro e w' ⟨e1, M', s', e2, e3⟩
  exact ⟨e1, M', B, C, l, mb, s', L, V, e2, h2.lstep e3⟩
theorem Brok.stay {M M' : Dom} {K K' : Nat → Prop} (h : Brok w' M' d n lv N (AT (homes n lv) T)) (h2 : Bsd w1 w M K ms vm tm os) (k : LStep M K w M' K' w') : SStay w1 w' d n lv N true T ms vm tm os := by
  obtain ⟨s, e1, e2, e3, e4⟩ := h
  exact ⟨M', s, ⟨e1, e2, e3, e4⟩, (h2.lstep k).forget⟩
theorem VStay.settle (h : VStay w1 w d n lv N v Rn Rk T ms vm tm os) :
    Calls Tryz.prog 31 #[.pointer (some ⟨v, 0, none⟩)] w fun e w' => (e = .returned (.int .i64 0) ∧ VStay w1 w' d n lv N v Rn Rk [Rk.data] ms vm tm os) ∨ (e = .returned (.int .i64 4) ∧ SStay w1 w' d n lv N true T ms vm tm os) := by
  obtain ⟨M, B, C, l, mb, s, L, V, h1, h2⟩ := h
  refine (settleVA h1).mono ?_
  rintro e w' ⟨M', B', k, ⟨e1, mb', s', e2⟩ | ⟨e1, e2⟩⟩
  · exact .inl ⟨e1, M', B', C, l, mb', s', L, V, e2, h2.lstep k⟩
  · exact .inr ⟨e1, e2.stay h2 k⟩
theorem VStay.keep (h : VStay w1 w d n lv N v Rn Rk T ms vm tm os) (hN : N ≤ 240) :
    Calls Tryz.prog 17 #[.pointer (some ⟨v, 0, none⟩)] w fun e w' => (e = .returned (.int .i64 0) ∧ VStay w1 w' d n lv (N + 1) v Rn Rn (T ++ [Rn.data]) ms vm tm os) ∨ (e = .returned (.int .i64 5) ∧ VStay w1 w' d n lv N v Rk Rk T ms vm tm os) ∨ (e = .returned (.int .i64 4) ∧ SStay w1 w' d n lv (N + 1) true (T ++ [Rn.data]) ms vm tm os) := by
  obtain ⟨M, B, C, l, mb, s, L, V, h1, h2⟩ := h
  refine (keepA h1 hN).mono ?_
  rintro e w' ⟨M', B', C', k, ⟨e1, mb', s', L', V', e2⟩ | ⟨e1, mb', e2⟩ | ⟨e1, e2⟩⟩
  · exact .inl ⟨e1, M', B', C', l, mb', s', L', V', e2, h2.lstep k⟩
  · exact .inr (.inl ⟨e1, M', B', C', l, mb', s, L, V, e2, h2.lstep k⟩)
  · exact .inr (.inr ⟨e1, e2.stay h2 k⟩)
theorem VStay.broken (h : VStay w1 w d n lv N v Rn Rk T ms vm tm os) : Calls Tryz.prog 38 #[.pointer (some ⟨d, 0, none⟩)] w fun e w' => e = .returned (.bool false) ∧ w = w' := by
  obtain ⟨M, B, C, l, mb, s, L, V, h1, h2⟩ := h
  exact brokenA h1.st
theorem SStay.broken {bk : Bool} (h : SStay w1 w d n lv N bk T ms vm tm os) : Calls Tryz.prog 38 #[.pointer (some ⟨d, 0, none⟩)] w fun e w' => e = .returned (.bool bk) ∧ w = w' := by
  obtain ⟨M, s, ⟨h1, rfl, -⟩, h2⟩ := h
  exact broken_any h1
theorem VStay.saf (h : VStay w1 w d n lv N v Rn Rk T ms vm tm os) : SStay w1 w d n lv N false T ms vm tm os := by
  obtain ⟨M, B, C, l, mb, s, L, V, h1, h2⟩ := h
  have hlv := h1.st.leaves
  have e := h1.st.alv.safe.mono h1.st.round (fun _ h => h)
  rw [hlv] at e
  exact ⟨M, s, ⟨h1.vs.sys.drum, h1.st.alv.ok.2.2.1, h1.st.n, e⟩, h2.forget⟩
theorem SStay.fall {bk : Bool} (h : SStay w1 w d n lv N bk T ms vm tm os) (hH : 0 < homes n lv) (ka : Option Addr) (kl kc : Nat) (keep : List Int) (torn cut : Int) (hK : IntsAt w ka kl kc keep) (hKM : 0 < kl → sB ka < w1.heap.size) :
    Calls Tryz.prog 39 #[.pointer (some ⟨d, 0, none⟩), .slice ka kl kc, .int .i64 torn, .int .i64 cut] w fun e w' => e = .returned (.tuple #[]) ∧ ∃ R, R.data ∈ T ∧ FStay w1 w' d n lv N true R ms vm tm os := by
  obtain ⟨M, s, ⟨h1, -, h3, h4⟩, h2⟩ := h
  refine (fallS ⟨s, h1, h3, h4⟩ ka kl kc keep torn cut hK (fun h0 hm => ?_)).mono ?_
  · have := h2.since.new _ (.inl hm)
    have := hKM h0
    omega
  · rintro e w' ⟨e1, M', V, V', e2, ⟨R, q1, q2, q3⟩, e4, e5, S⟩
    refine ⟨e1, R, q3, M', V, e4, fun _ => e5, q1, fun k z hz => ?_, h2.lstep (LStep.of_step S)⟩
    have hk := laidT_rng q1 hH (show (laidT R k).isSome by rw [hz]; rfl)
    rw [e2 _ (by omega)]
    exact q2 k z hz
theorem FStay.brk {up : Bool} {R : Rcs} (h : FStay w1 w d n lv N up R ms vm tm os) (a : Int) :
    Calls Tryz.prog 37 #[.pointer (some ⟨d, 0, none⟩), .int .i64 a] w fun e w' => e = .returned (.tuple #[]) ∧ FStay w1 w' d n lv N false R ms vm tm os := by
  obtain ⟨M, V, h1, -, h3, h4, h5⟩ := h
  refine (breakF h1 a).mono ?_
  rintro e w' ⟨e1, M', e2, S⟩
  exact ⟨e1, M', V, e2, (fun h => by cases h), h3, h4, h5.lstep (LStep.of_step S)⟩
theorem FStay.tryOpen {up : Bool} {R : Rcs} (h : FStay w1 w d n lv N up R ms vm tm os) (hN : N ≤ 239) :
    Calls Tryz.prog 18 #[.pointer (some ⟨d, 0, none⟩)] w fun e w' => (∃ u, e = .returned u) ∧ ∃ bk, SStay w1 w' d n lv (N + 1) bk [R.data] ms vm tm os := by
  obtain ⟨M, V, h1, -, h3, h4, h5⟩ := h
  refine (openVF h1 hN).mono ?_
  rintro e w' ⟨e1, M', ⟨s, q1, q2, q3⟩, k⟩
  exact ⟨e1, s.broken, M', s, ⟨q1, rfl, q2, q3.mono (Int.le_refl _) (fun V' e => by subst e; exact ⟨R, h3, h4, List.mem_singleton.2 rfl⟩)⟩, h5.lstep k⟩
theorem FStay.opened {R : Rcs} (h : FStay w1 w d n lv N true R ms vm tm os) (hN : N ≤ 239) (hH : 2 ≤ homes n lv ∧ homes n lv ≤ 600) :
    Calls Tryz.prog 18 #[.pointer (some ⟨d, 0, none⟩)] w fun e w' => ∃ v, e = .returned (.tuple #[.pointer (some ⟨v, 0, none⟩), .int .i64 0]) ∧ VStay w1 w' d n lv (N + 1) v R R [R.data] ms vm tm os := by
  obtain ⟨M, V, -, h2, h3, h4, h5⟩ := h
  refine (openVX (h2 rfl) hN hH h3 h4).mono ?_
  rintro e w' ⟨M', B', C', l, mb, v, s, L, V', e1, k, VA⟩
  exact ⟨v, e1, M', B', C', l, mb, s, L, V', VA, h5.lstep k⟩
theorem VStay.is (h : VStay w1 w d n lv N v Rn Rk T ms vm tm os) {g : Nat} {D : DT} (hx : (g, D) ∈ ms ∨ (g, D) ∈ tm) (hD : DOk D) :
    Calls Tryz.prog 23 #[.pointer (some ⟨v, 0, none⟩), .map (some g)] w fun e w' => e = .returned (.bool (sameD D Rn)) ∧ VStay w1 w' d n lv N v Rn Rk T ms vm tm os := by
  have hm := h.imap hx
  have h0 := h
  obtain ⟨M, B, C, l, mb, s, L, V, h1, h2⟩ := h
  refine (is6_any h1.vs h1.st.alv.ok.1.lv h1.H h1.okn hm hD).mono ?_
  rintro e w' ⟨e1, k⟩
  exact ⟨e1, h0.below k⟩
theorem VStay.copied (h : VStay w1 w d n lv N v Rn Rk T ms vm tm os) {g : Nat} {D : DT} (hx : (g, D) ∈ ms ∨ (g, D) ∈ tm) (hD : DOk D) :
    Calls Tryz.prog 29 #[.map (some g)] w fun e w' => ∃ g', e = .returned (.map (some g')) ∧ VStay w1 w' d n lv N v Rn Rk T ((g', D) :: ms) vm tm os ∧ Below w.heap.size w w' ∧ w.heap.size ≤ g' ∧ g' < w'.heap.size := by
  have hm := h.imap hx
  refine (copied6_any hm).mono ?_
  rintro e w' ⟨g', e1, hg, hl, k⟩
  rw [clipD_all hD] at hg
  exact ⟨g', e1, h.new k hl hg, k, hl⟩
theorem SStay.copied {bk : Bool} (h : SStay w1 w d n lv N bk T ms vm tm os) {g : Nat} {D : DT} (hx : (g, D) ∈ ms ∨ (g, D) ∈ tm) (hD : DOk D) :
    Calls Tryz.prog 29 #[.map (some g)] w fun e w' => ∃ g', e = .returned (.map (some g')) ∧ SStay w1 w' d n lv N bk T ((g', D) :: ms) vm tm os ∧ Below w.heap.size w w' ∧ w.heap.size ≤ g' ∧ g' < w'.heap.size := by
  have hm := h.imap hx
  refine (copied6_any hm).mono ?_
  rintro e w' ⟨g', e1, hg, hl, k⟩
  rw [clipD_all hD] at hg
  exact ⟨g', e1, h.new k hl hg, k, hl⟩
end

end Go.Proofs.YtleoelhhndeheaaGreat
