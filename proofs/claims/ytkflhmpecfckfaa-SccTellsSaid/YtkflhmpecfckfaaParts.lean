/- scc.Parts: of each node the least one of its part -/
import Derived.Test.YtkflhmpecfckfaaFinE
import Derived.Test.YtkflhmpecfckfaaParts0
import Derived.Deep.DeepCutAuto
open Go Go.RowKit
namespace Go.Proofs.Ytkflhmpecfckfaa
open Tj

/-- edges that came in -/
structure EdgesAt (w : World) (ea : Option Addr) (n : Nat) (L : Nat → List Int) : Prop where
  nn : 0 < n → ea = some ⟨sB ea, sO ea, none⟩
  row : ∀ v, v < n → ∃ a l c, w.cell? ⟨sB ea, sO ea + v, none⟩ = some (.slice a l c) ∧ IntsAt w a l c (L v) ∧ l ≤ 1000000
theorem IntsAt.below {w w' : World} {a : Option Addr} {m c : Nat} {zs : List Int} (h : IntsAt w a m c zs) {B : Nat} (hb : Below B w w') (hB : w.heap.size ≤ B) : IntsAt w' a m c zs :=
  ⟨h.row.below hb hB, h.len, h.nil, h.cap, h.capm⟩
theorem EdgesAt.below {w w' : World} {ea : Option Addr} {n : Nat} {L : Nat → List Int} (h : EdgesAt w ea n L) {B : Nat} (hb : Below B w w') (hB : w.heap.size ≤ B) : EdgesAt w' ea n L := by
  refine ⟨h.nn, fun v hv => ?_⟩
  obtain ⟨a, l, c, h1, h2, h3⟩ := h.row v hv
  exact ⟨a, l, c, Below.cellAt hb (Nat.lt_of_lt_of_le (lt_of_cell h1) hB) h1, h2.below hb hB, h3⟩

/-- the edges that lead to nodes -/
def edgeE (n : Nat) (L : Nat → List Int) (v : Nat) : List Nat := if v < n then ((L v).filter (nodeB n)).map Int.toNat else []
theorem edgeE_lt (n : Nat) (L : Nat → List Int) : ∀ v, ∀ u ∈ edgeE n L v, u < n := by
  intro v u hu
  unfold edgeE at hu
  split at hu
  · obtain ⟨z, hz, rfl⟩ := List.mem_map.1 hu
    have := (List.mem_filter.1 hz).2
    simp [nodeB] at this
    omega
  · simp at hu
theorem edgeE_ints {n v : Nat} {L : Nat → List Int} (hv : v < n) : (L v).filter (nodeB n) = (edgeE n L v).map Int.ofNat := by
  unfold edgeE
  rw [if_pos hv, List.map_map]
  conv => lhs; rw [← List.map_id ((L v).filter (nodeB n))]
  refine List.map_congr_left fun z hz => ?_
  have := (List.mem_filter.1 hz).2
  simp [nodeB] at this
  simp; omega

/-- the finder's block -/
def fcells (ev : Value) (go gl gi gp n : Nat) : Array Value := #[ev, .slice (some ⟨go, 0, none⟩) n n, .slice (some ⟨gl, 0, none⟩) n n, .slice (some ⟨gi, 0, none⟩) n n, .slice none 0 0, .int .i64 0, .slice (some ⟨gp, 0, none⟩) n n]

/-- the finder as it was made -/
structure Made (w W : World) (f go gl gi gp n : Nat) : Prop where
  obj : W.heap[f]? = some (.cells (fcells (.slice none 0 0) go gl gi gp n) 36 (0, 0))
  ord : W.heap[go]? = some (.cells (tab n fun _ => 0).toArray 3 (0, 0))
  low : W.heap[gl]? = some (.cells (tab n fun _ => 0).toArray 3 (0, 0))
  inS : W.heap[gi]? = some (.cells (tabB n fun _ => false).toArray 4 (0, 0))
  part : W.heap[gp]? = some (.cells (tab n fun _ => 0).toArray 3 (0, 0))
  ok : FB.Ok ⟨f, go, gl, gi, gp, W.heap.size⟩
  ge : w.heap.size ≤ f ∧ w.heap.size ≤ go ∧ w.heap.size ≤ gl ∧ w.heap.size ≤ gi ∧ w.heap.size ≤ gp
  below : Below w.heap.size w W

theorem Made.drew {w W : World} {f go gl gi gp n : Nat} (h : Made w W f go gl gi gp n) : Made w W.drew f go gl gi gp n :=
  ⟨h.obj, h.ord, h.low, h.inS, h.part, h.ok, h.ge, h.below.drew⟩
theorem size_alloc (w : World) (o : Obj) : (w.alloc o).heap.size = w.heap.size + 1 := by simp

theorem sf_alloc {w : World} {f : Nat} (h : w.cell? ⟨f, 0, none⟩ = some (val w f 0) ∧ w.frozen? ⟨f, 0, none⟩ = false) (o : Obj) : (w.alloc o).cell? ⟨f, 0, none⟩ = some (val (w.alloc o) f 0) ∧ (w.alloc o).frozen? ⟨f, 0, none⟩ = false :=
  ⟨has_of (cell_alloc o h.1), free_alloc o (lt_of_cell h.1) h.2⟩
theorem sf_grown {w w' : World} {f : Nat} {row : Option Nat} (h : w.cell? ⟨f, 0, none⟩ = some (val w f 0) ∧ w.frozen? ⟨f, 0, none⟩ = false) (hg : w.grownBy w' row) (hne : row ≠ some f) : w'.cell? ⟨f, 0, none⟩ = some (val w' f 0) ∧ w'.frozen? ⟨f, 0, none⟩ = false :=
  ⟨has_of ((hg.cell_far ⟨f, 0, none⟩ (lt_of_cell h.1) (Ne.symm hne)).trans h.1), (hg.frozen_far ⟨f, 0, none⟩ (lt_of_cell h.1) (Ne.symm hne)).trans h.2⟩
theorem sf_set {w : World} {f b o : Nat} {v : Value} (h : w.cell? ⟨f, 0, none⟩ = some (val w f 0) ∧ w.frozen? ⟨f, 0, none⟩ = false) : (w.setCell ⟨b, o, none⟩ v).cell? ⟨f, 0, none⟩ = some (val (w.setCell ⟨b, o, none⟩ v) f 0) ∧ (w.setCell ⟨b, o, none⟩ v).frozen? ⟨f, 0, none⟩ = false :=
  ⟨has_set h.1, by simpa using h.2⟩

/-- the headers of the rows that were laid -/
structure Hdrs (w : World) (B : Nat) (ev : Value) (hs : List Value) (k : Nat) (E : Nat → List Nat) : Prop where
  row : ∀ v, v < k → ∃ a c, hs[v]? = some (.slice a (E v).length c) ∧ IntsAt w a (E v).length c ((E v).map Int.ofNat) ∧ (0 < (E v).length → B ≤ sB a ∧ sB a < w.heap.size ∧ ev.ownBlock ≠ some (sB a))
theorem Hdrs.nil (w : World) (B : Nat) (ev : Value) (E : Nat → List Nat) : Hdrs w B ev [] 0 E := ⟨fun v hv => by omega⟩
theorem Hdrs.snoc {w w' : World} {B f gg S k : Nat} {ev ev' : Value} {hs : List Value} {E : Nat → List Nat} (h : Hdrs w B ev hs k E) (hlen : hs.length = k) (hx : Ext (fun q => q = f ∨ ev.ownBlock = some q) w w') (hf : f < B) (hB : B ≤ w.heap.size)
    (hev' : ev'.ownBlock = some gg) (hgg : ev.ownBlock = some gg ∨ S ≤ gg) (hS : w.heap.size ≤ S) (hS' : S ≤ w'.heap.size) (hlt : ∀ g, ev.ownBlock = some g → g < w.heap.size)
    {a : Option Addr} {c : Nat} (hI : IntsAt w' a (E k).length c ((E k).map Int.ofNat)) (hl : 0 < (E k).length → w.heap.size ≤ sB a ∧ sB a < S) : Hdrs w' B ev' (hs ++ [.slice a (E k).length c]) (k + 1) E := by
  refine ⟨fun v hv => ?_⟩
  by_cases e : v = k
  · subst e
    refine ⟨a, c, by rw [List.getElem?_append_right (by omega), hlen, Nat.sub_self]; rfl, hI, fun h0 => ?_⟩
    obtain ⟨h1, h2⟩ := hl h0
    refine ⟨by omega, by omega, ?_⟩
    rw [hev']
    intro e
    cases e
    rcases hgg with h3 | h3
    · have := hlt _ h3; omega
    · omega
  · obtain ⟨a', c', h1, h2, h3⟩ := h.row v (by omega)
    refine ⟨a', c', by rw [List.getElem?_append_left (by omega)]; exact h1, h2.ext hx (fun h0 hF => ?_), fun h0 => ?_⟩
    · obtain ⟨p1, p2, p3⟩ := h3 h0
      rcases hF with hF | hF
      · omega
      · exact p3 hF
    · obtain ⟨p1, p2, p3⟩ := h3 h0
      refine ⟨p1, by omega, ?_⟩
      rw [hev']
      intro e
      cases e
      rcases hgg with h4 | h4
      · exact p3 h4
      · omega

theorem sum_zero : ∀ (l : List Nat), (l.map fun _ => 0).sum = 0
  | [] => rfl
  | x :: l => by simp only [List.map_cons, List.sum_cons, sum_zero l]

theorem iS : (Try.prog.info? 29).map (fun i => (i.zero, i.size, i.bytes)) = some (some (.slice none 0 0), 1, 24) := by kernel_rfl

set_option maxRecDepth 100000 in
set_option maxHeartbeats 8000000 in
theorem parts_any (ea : Option Addr) (n ec : Nat) (L : Nat → List Int) (w : World) (hR : EdgesAt w ea n L) (hn : n ≤ 1000000) :
    Calls Try.prog 10 #[.slice ea n ec] w fun e w' => ∃ (gp : Nat) (p : Nat → Nat), e = .returned (.slice (some ⟨gp, 0, none⟩) n n) ∧ w'.heap[gp]? = some (.cells (tab n p).toArray 3 (0, 0)) ∧ IsPart n (edgeE n L) p ∧ w.heap.size ≤ gp ∧ Below w.heap.size w w' := by
  have m1 := fun W => mkI hn W
  have m2 := fun W => mkB hn W
  go_enter Try.func10, Try.ntmps10
  go_wp2_with fail
  go_cut [4] (fun v W => ∃ f go gl gi gp, v = .pointer (some ⟨f, 0, none⟩) ∧ Made w W f go gl gi gp n)
  case first =>
    go_region_held3 (fun w' => True) (trivial) (fail)
    all_goals (go_wp2_with fail; go_meet)
    all_goals
      refine ⟨_, _, _, _, _, rfl, Made.drew ⟨blk_at _ (by simp only [size_alloc]), ?_, ?_, ?_, ?_, ?_, ?_, ?_⟩⟩
      · repeat (first | (refine blk_at _ ?_; simp only [size_alloc]; done) | refine blk_old _ ?_)
      · repeat (first | (refine blk_at _ ?_; simp only [size_alloc]; done) | refine blk_old _ ?_)
      · repeat (first | (refine blk_at _ ?_; simp only [size_alloc]; done) | refine blk_old _ ?_)
      · repeat (first | (refine blk_at _ ?_; simp only [size_alloc]; done) | refine blk_old _ ?_)
      · constructor <;> simp only [size_alloc] <;> omega
      · refine ⟨?_, ?_, ?_, ?_, ?_⟩ <;> omega
      · repeat (first | exact Below.refl _ _ | refine Below.alloc ?_ (by first | omega | (simp only [size_alloc]; omega)) _)
  case rest =>
    obtain ⟨f, go, gl, gi, gp, rfl, M⟩ := hcut
    obtain ⟨i0, hi, hz0, hz1, hz2⟩ := info_parts iS
    clear m1 m2
    have hlf := M.ok.l1
    have hsz := M.below.size
    have hR1 := hR.below M.below (Nat.le_refl _)
    simp only at hlf
    go_wp2_with fail
    go_loopw [21] (fun v wr => ∃ (k : Nat) (ev : Value) (hs : List Value), v = .int .i64 k ∧ k ≤ n ∧ wr.heap[f]? = some (.cells (fcells ev go gl gi gp n) 36 (0, 0)) ∧ wr.ownsRow wc.heap.size 29 1 ev k hs ∧ Hid (Hdrs wr wc.heap.size ev hs k (edgeE n L)) ∧ Ext (fun q => q = f ∨ wc.heap.size ≤ q) wc wr) (fun v _ => n - (intOf v).toNat)
    case atStart => exact ⟨0, .slice none 0 0, [], rfl, Nat.zero_le _, M.obj, World.ownsRow_nil _ _ _ _, hid (Hdrs.nil _ _ _ _), Ext.refl _ _⟩
    case round =>
      obtain ⟨k, ev, hs, rfl, hk, OB, OW, HD, X⟩ := hrel
      by_cases hin : k < n
      · have hws := X.size
        have BW : Below w.heap.size w wr := Below.ext M.below X (fun i h => by have := M.ge.1; omega) hsz
        obtain ⟨ak, lk, ck, hck, hik, hlk⟩ := (hR.below BW (Nat.le_refl _)).row k hin
        have hek := hR.nn (by omega)
        have OL := owns_slice OW
        have hnef : ev.ownBlock ≠ some f := fun e => by have := (OW.lt f e).1; omega
        have hltE := fun g hg => (OW.lt g hg).2
        have cf : wr.drew.cell? ⟨f, 0, none⟩ = some ev := blk_cell (w := wr) OB rfl
        have S0 : wr.drew.cell? ⟨f, 0, none⟩ = some (val wr.drew f 0) ∧ wr.drew.frozen? ⟨f, 0, none⟩ = false := ⟨has_of cf, blk_free (w := wr) OB⟩
        have hk63 : k + 1 ≤ maxLen := by simp only [maxLen]; omega
        have hkb : (k + 1) * 24 ≤ 140737488355328 := by omega
        have OBd : wr.drew.heap[f]? = some (.cells (fcells ev go gl gi gp n) 36 (0, 0)) := OB
        have hfw : f < wr.heap.size := by omega
        have hckd : wr.drew.cell? ⟨sB ea, sO ea + k, none⟩ = some (.slice ak lk ck) := hck
        have hikd : IntsAt wr.drew ak lk ck (L k) := ⟨⟨hik.row.nn, hik.row.cell⟩, hik.len, hik.nil, hik.cap, hik.capm⟩
        have HEK := hid hek
        have FC := followers_any ea n ec k ak lk ck (L k) wr.drew hin hek hckd hikd hlk
        clear hek
        go_wp2_with fail
        go_region_law (first
            | (go_simp; go_at_call 14; refine FC.mono ?_; rintro e w5 ⟨a5, m5, c5, rfl, I5, D5, -, B5⟩; have hb5 := B5.block f hfw; have o5 := hb5.trans OBd; have S5 : w5.cell? ⟨f, 0, none⟩ = some ev := blk_cell o5 rfl; have f5 : w5.frozen? ⟨f, 0, none⟩ = false := blk_free o5; have S5a : ∀ o, (w5.alloc o).cell? ⟨f, 0, none⟩ = some ev := (fun o => cell_alloc o S5); have O5 := Below.owns B5 (Nat.le_refl _) OW.drew; have s5 : wr.heap.size ≤ w5.heap.size := B5.size; have hbs : wc.heap.size ≤ (w5.alloc (.cells #[.slice a5 m5 c5] 29)).heap.size := (by simp; omega); clear hb5)
            | (refine step_append_lies _ (by rfl) _ _ _ (by rfl) wc.heap.size 29 i0 (.slice none 0 0) 1 24 Try.underlying22 hi hz0 hz1 hz2 (by rfl) (by decide) ev k hs (by rfl) (O5.alloc _) ⟨w5.heap.size, 0, none⟩ 1 1 [.slice a5 m5 c5] (by rfl) (by rfl) (row_new w5 #[.slice a5 m5 c5] 29).news (fun u hu => by simp at hu; subst hu; rfl) (by decide) hk63 hkb hbs (w5.heap.size + 1) (by simp) ?_; intro gg cap w6 O6 G6 hat hlt; have S6 : w6.cell? ⟨f, 0, none⟩ = some ev := (G6.cell_far ⟨f, 0, none⟩ (lt_of_cell (S5a _)) (Ne.symm hnef)).trans (S5a _); have f6 : w6.frozen? ⟨f, 0, none⟩ = false := (G6.frozen_far ⟨f, 0, none⟩ (lt_of_cell (S5a _)) (Ne.symm hnef)).trans (free_alloc _ (lt_of_cell S5) f5)))
        all_goals
          go_wp2_with fail
          go_roundw
          case measure => simp [intOf]; omega
          case rel =>
            have hm5 : m5 = (edgeE n L k).length := by rw [← I5.len, edgeE_ints hin, List.length_map]
            subst hm5
            rw [edgeE_ints hin] at I5
            have z6 := (G6.block f (by simp; omega) (Ne.symm hnef)).trans (blk_old _ o5)
            have hx : Ext (fun q => q = f ∨ ev.ownBlock = some q) wr (w6.setCell ⟨f, 0, none⟩ (.slice (some ⟨gg, 0, none⟩) (k + 1) cap)) :=
              ((((Ext.refl (fun q => q = f ∨ ev.ownBlock = some q) wr).drew.trans (Ext.of_below B5 (fun q => q = f ∨ ev.ownBlock = some q)) (fun _ _ h => h)).alloc _).trans (Ext.of_grown G6) (fun _ _ h => .inr h)).setC (.inl rfl)
            have hx5 : Ext (fun q => q = f ∨ ev.ownBlock = some q) w5 (w6.setCell ⟨f, 0, none⟩ (.slice (some ⟨gg, 0, none⟩) (k + 1) cap)) :=
              (((Ext.refl (fun q => q = f ∨ ev.ownBlock = some q) w5).alloc _).trans (Ext.of_grown G6) (fun _ _ h => .inr h)).setC (.inl rfl)
            have hloc : 0 < (edgeE n L k).length → wr.heap.size ≤ sB a5 ∧ sB a5 < w5.heap.size := fun h0 => by
              have hnn : a5 ≠ none := fun e => by have := (I5.nil e).1; omega
              obtain ⟨h1, h2⟩ := D5 hnn
              have h1 : wr.heap.size < sB a5 := h1
              omega
            have hI5 := I5.ext hx5 (fun h0 h => by
              obtain ⟨h1, h2⟩ := hloc h0
              rcases h with h | h
              · omega
              · have := hltE _ h; omega)
            have hlen : hs.length = k := by have := OW.1; omega
            refine ⟨k + 1, .slice (some ⟨gg, 0, none⟩) (k + 1) cap, hs ++ [.slice a5 (edgeE n L k).length c5], by go_num, by omega, blk_setCell z6 _, ownsRow_setCell_below O6 (show Addr.block ⟨f, 0, none⟩ < wc.heap.size from hlf) _,
              hid (HD.out.snoc hlen hx hlf hws rfl ?_ (S := w5.heap.size) s5 ?_ hltE hI5 hloc), X.trans hx (fun q _ h => ?_)⟩
            · rcases hat with h | h
              · exact .inl h
              · have h : gg = w5.heap.size + 1 := h
                exact .inr (show w5.heap.size ≤ gg by omega)
            · have := hx5.size; exact this
            · rcases h with h | h
              · exact .inl h
              · exact .inr (OW.lt q h).1
      · obtain rfl : n = k := by omega
        obtain ⟨W1, rfl⟩ : ∃ W, W = wr := ⟨wr, rfl⟩
        have hMo := M.ok
        have hMs : wc.heap.size ≤ W1.heap.size := X.size
        have hBO : FB.Ok ⟨f, go, gl, gi, gp, W1.heap.size⟩ := by
          obtain ⟨n1, n2, n3, n4, n5, n6, n7, n8, n9, n10, l1, l2, l3, l4, l5⟩ := hMo
          simp only at *
          constructor <;> simp only <;> omega
        have hnf : ∀ q, q < wc.heap.size → q ≠ f → ¬ (q = f ∨ wc.heap.size ≤ q) := fun q h1 h2 h3 => by omega
        have F0 : Fin W1 ⟨f, go, gl, gi, gp, W1.heap.size⟩ ev (.slice none 0 0) n { ord := fun _ => 0, low := fun _ => 0, inS := fun _ => false, stk := [], clk := 0, part := fun _ => 0, path := [] } :=
          ⟨OB, X.blk (hnf _ hMo.l2 hMo.n1.symm) M.ord, X.blk (hnf _ hMo.l3 hMo.n2.symm) M.low, X.blk (hnf _ hMo.l4 hMo.n3.symm) M.inS, X.blk (hnf _ hMo.l5 hMo.n4.symm) M.part, World.ownsRow_nil _ _ _ _, hn, by simp, Nat.le_refl _⟩
        have BW : Below w.heap.size w W1 := Below.ext M.below X (fun i h => by have := M.ge.1; omega) hsz
        have I0 := hid (Inv.start n (edgeE n L) (fun _ => 0))
        have C0 : Cnt n { ord := fun _ => 0, low := fun _ => 0, inS := fun _ => false, stk := [], clk := 0, part := fun _ => 0, path := [] } := by
          unfold Cnt met
          simp only [if_true]
          exact (sum_zero _).symm
        have HC0 := hid C0
        go_wp2_with fail
        go_loopw [39] (fun v wx => ∃ (k : Nat) (s' : St) (stv' : Value), v = .int .i64 k ∧ k ≤ n ∧ Fin wx ⟨f, go, gl, gi, gp, W1.heap.size⟩ ev stv' n s' ∧ Hid (Tj.Inv n (edgeE n L) s') ∧ Hid (Cnt n s') ∧ Hid (s'.path = []) ∧ Hid (∀ v, v < k → s'.ord v ≠ 0) ∧ Ext (FB.may ⟨f, go, gl, gi, gp, W1.heap.size⟩) W1 wx) (fun v _ => n - (intOf v).toNat)
        case atStart => exact ⟨0, _, .slice none 0 0, rfl, Nat.zero_le _, F0, I0, HC0, hid rfl, hid (fun v hv => by omega), Ext.refl _ _⟩
        case round =>
          obtain ⟨k, s', stv', rfl, hk2, F, I, C, P, D, X2⟩ := hrel
          by_cases hin2 : k < n
          · have hk3 : (0 : Int) ≤ (k : Int) := by omega
            have hk4 : (k : Int) < (n : Int) := by omega
            have c1 : wr.cell? ⟨f, 1, none⟩ = some (.slice (some ⟨go, 0, none⟩) n n) := blk_cell F.obj rfl
            by_cases ho : s'.ord k = 0
            · have c2 : wr.cell? ⟨go, k, none⟩ = some (.int .i64 0) := by have := blk_cell F.ord (tab_get hin2); simp only [ho] at this; exact this
              have HO := hid ho
              clear ho
              obtain ⟨ge, ce, rfl, hnce⟩ := owns_some OW (by omega)
              have hge := (OW.lt ge rfl)
              have hM2 := M.ok
              have ED : Eds W1 ⟨f, go, gl, gi, gp, W1.heap.size⟩ ge ce n (edgeE n L) := by
                obtain ⟨n1, n2, n3, n4, n5, n6, n7, n8, n9, n10, l1, l2, l3, l4, l5⟩ := hM2
                simp only at *
                refine ⟨⟨hge.2, by simp only; omega, by simp only; omega, by simp only; omega, by simp only; omega, by simp only; omega⟩, fun v hv => ?_⟩
                obtain ⟨a, c, p1, p2, p3⟩ := HD.out.row v hv
                refine ⟨a, c, (OW.cellAt v (by omega)).trans p1, p2, fun h0 => ?_⟩
                obtain ⟨q1, q2, q3⟩ := p3 h0
                refine ⟨q2, ?_, ?_, ?_, ?_, ?_⟩ <;> simp only <;> omega
              have FA := from_any hBO F (ED.ext X2 (fun q h1 h2 h3 h4 h5 h6 => FB.not_may h1 h2 h3 h4 h5 h6)) (edgeE_lt n L) I.out C.out P.out k hin2 HO.out
              go_wp2_with fail
              refine FA.mono ?_
              rintro e w2 ⟨rfl, s2, stv2, F2, I2, C2, P2', hk0, hm2, X3⟩
              have I2 := hid I2
              have C2 := hid C2
              have P2' := hid P2'
              have hk0 := hid hk0
              go_wp2_with fail
              go_roundw
              case measure => simp [intOf]; omega
              case rel =>
                refine ⟨k + 1, s2, stv2, by go_num, by omega, F2, I2, C2, P2', hid (fun v hv => ?_), X2.trans X3 (fun _ _ h => h)⟩
                by_cases e : v = k
                · subst e; exact hk0.out
                · exact hm2 _ (D.out v (by omega))
            · have c2 : wr.cell? ⟨go, k, none⟩ = some (.int .i64 (s'.ord k : Int)) := blk_cell F.ord (tab_get hin2)
              have hone : ((s'.ord k : Int) == 0) = false := by simp; omega
              have HO := hid ho
              clear ho
              go_wp2_with fail
              go_roundw
              case measure => simp [intOf]; omega
              case rel =>
                refine ⟨k + 1, s', stv', by go_num, by omega, F, I, C, P, hid (fun v hv => ?_), X2⟩
                by_cases e : v = k
                · subst e; exact HO.out
                · exact D.out v (by omega)
          · obtain rfl : n = k := by omega
            have c6 : wr.cell? ⟨f, 6, none⟩ = some (.slice (some ⟨gp, 0, none⟩) n n) := blk_cell F.obj rfl
            go_wp2_with fail
            go_ret
            exact ⟨gp, s'.part, rfl, F.part, Inv.parts I.out P.out D.out, M.ge.2.2.2.2, Below.ext BW X2 (fun q h => by
              obtain ⟨g1, g2, g3, g4, g5⟩ := M.ge
              unfold FB.may at h
              simp only at h
              omega) BW.size⟩
end Go.Proofs.Ytkflhmpecfckfaa
