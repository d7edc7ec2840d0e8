/- scc.Good at any list -/
import Derived.Test.YtkflhmpecfckfaaGoodW
import Derived.Test.YtkflhmpecfckfaaShelf
import Derived.Sort.OwnSortedInts
import Derived.Lib.RowBridge
open Go Go.RowKit
namespace Go.Proofs.Ytkflhmpecfckfaa
open Tj

theorem holds_own {w : World} {base g n cap : Nat} {zs : List Int} (h : w.ownsRow base 3 1 (.slice (some ⟨g, 0, none⟩) n cap) n (I8 zs)) (hl : zs.length = n) : Sort.Holds (Value.int .i64) w g 0 zs.toArray := by
  intro j hj
  have hj' : j < zs.length := by simpa using hj
  refine ⟨?_, ?_⟩
  · rw [Nat.zero_add, h.cellAt j (by omega), I8_get hj']
    simp [hj']
  · rw [Nat.zero_add]; exact h.frozenAt j
theorem own_blk {w : World} {base g n cap : Nat} {zs : List Value} (h : w.ownsRow base 3 1 (.slice (some ⟨g, 0, none⟩) n cap) n zs) : ∃ cur, w.heap[g]? = some (.cells cur 3 (0, 0)) ∧ base ≤ g ∧ n ≤ cap ∧ cap ≤ maxLen ∧ cur.size = cap * 1 := by
  rcases h.2 with ⟨hv, _⟩ | ⟨g', cap', cur, hv, hg, hh, h1, h2, h3, _⟩
  · cases hv
  · cases hv; exact ⟨cur, hh, hg, h1, h2, h3⟩

theorem sortG_any (base g n cap : Nat) (zs : List Int) (w : World) (h : w.ownsRow base 3 1 (.slice (some ⟨g, 0, none⟩) n cap) n (I8 zs)) (hl : zs.length = n) (hn : n ≤ 1000000) (hb : base ≤ w.heap.size) :
    Calls Try.prog 18 #[.slice (some ⟨g, 0, none⟩) n cap] w fun e w' => e = .returned (.tuple #[]) ∧ w'.ownsRow base 3 1 (.slice (some ⟨g, 0, none⟩) n cap) n (I8 (zs.mergeSort fun x y => decide (x ≤ y))) ∧ Below base w w' := by
  obtain ⟨cur, hh, hg, h1, h2, h3⟩ := own_blk h
  subst hl
  refine (Try.slices_Sort_int g 0 cap zs w (holds_own h rfl) (lt_of_blk hh) (by omega)).mono ?_
  rintro e w' ⟨rfl, q, os, rfl⟩
  refine ⟨rfl, ?_, ?_⟩
  · exact ownsRow_sortedI (by simp) hg hh h1 h2 h3
  · exact (Below.refl _ _).grown (grownBy_sortedI _) hb (fun k hk => by cases hk; exact hg)

theorem compactG_any (base g n cap : Nat) (zs : List Int) (w : World) (h : w.ownsRow base 3 1 (.slice (some ⟨g, 0, none⟩) n cap) n (I8 zs)) (hl : zs.length = n) (hn : n ≤ 1000000) (hb : base ≤ w.heap.size) :
    Calls Try.prog 19 #[.slice (some ⟨g, 0, none⟩) n cap] w fun e w' => e = .returned (.slice (some ⟨g, 0, none⟩) (Lib.compact zs).length cap) ∧ IntsAt w' (some ⟨g, 0, none⟩) (Lib.compact zs).length cap (Lib.compact zs) ∧ Below base w w' := by
  obtain ⟨cur, hh, hg, h1, h2, h3⟩ := own_blk h
  subst hl
  have hcl := Lib.compact_length_le zs
  refine (Try.slices_Compact_int g 0 cap zs w (holds_own h rfl) (by omega) h1).mono ?_
  rintro e w' ⟨rfl, q, rfl⟩
  have hgr : ∀ W : World, Sort.grow W #[] = W := fun W => by simp [Sort.grow]
  have ho := ownsRow_sortedI (w := w) (base := base) (g := g) (cap := cap) (n := q) (e := 3) (os := #[]) (cur := cur) (ss := zs) (ts := Lib.compact zs ++ List.replicate (zs.length - (Lib.compact zs).length) 0) (by simp; omega) hg hh h1 h2 h3
  have hgw := grownBy_sortedI (w := w) (g := g) (n := q) (os := #[]) (Lib.compact zs ++ List.replicate (zs.length - (Lib.compact zs).length) 0).toArray
  rw [hgr] at ho hgw
  have ht := owns_take ho hcl
  have e1 : ((Lib.compact zs ++ List.replicate (zs.length - (Lib.compact zs).length) 0).map (Value.int .i64)).take (Lib.compact zs).length = I8 (Lib.compact zs) := by
    rw [← List.map_take, List.take_left]
  rw [e1] at ht
  obtain ⟨a', c', hv, _, p1, p2, hrow, _, _⟩ := row_of_owns ht
  cases hv
  refine ⟨rfl, ⟨hrow, rfl, (fun h => by cases h), p1, p2⟩, (Below.refl _ _).grown hgw hb (fun k hk => by cases hk; exact hg)⟩

theorem mem_compact (l : List Int) (x : Int) : x ∈ Lib.compact l ↔ x ∈ l := by
  have key : ∀ j, j < l.length → ∃ i, i < l.length ∧ Lib.keeps l.toArray i = true ∧ l.toArray[i]! = l.toArray[j]! := by
    intro j
    induction j with
    | zero => exact fun h => ⟨0, h, by simp [Lib.keeps], rfl⟩
    | succ j ih =>
      intro h
      by_cases hk : Lib.keeps l.toArray (j + 1) = true
      · exact ⟨j + 1, h, hk, rfl⟩
      · obtain ⟨i, h1, h2, h3⟩ := ih (by omega)
        refine ⟨i, h1, h2, h3.trans ?_⟩
        simp only [Lib.keeps, decide_eq_true_eq, not_or, Nat.add_sub_cancel] at hk
        exact (Classical.not_not.1 hk.2).symm
  unfold Lib.compact Lib.compactUpTo
  rw [List.mem_map]
  constructor
  · rintro ⟨i, hi, rfl⟩
    have hi := List.mem_range.1 (List.mem_filter.1 hi).1
    have : l.toArray[i]! = l[i] := by simp [hi]
    rw [this]
    exact List.getElem_mem hi
  · intro hx
    obtain ⟨j, hj, rfl⟩ := List.getElem_of_mem hx
    obtain ⟨i, h1, h2, h3⟩ := key j hj
    refine ⟨i, List.mem_filter.2 ⟨List.mem_range.2 h1, h2⟩, ?_⟩
    rw [h3]
    simp [hj]

theorem asc_compact {l : List Int} (h : l.Pairwise (· ≤ ·)) : (Lib.compact l).Pairwise (· < ·) := by
  have hle : ∀ i j, i ≤ j → j < l.length → l.toArray[i]! ≤ l.toArray[j]! := fun i j hij hj => by
    have e1 : l.toArray[i]! = l[i] := by simp [show i < l.length by omega]
    have e2 : l.toArray[j]! = l[j] := by simp [hj]
    rw [e1, e2]
    by_cases e : i = j
    · subst e; exact Int.le_refl _
    · exact List.pairwise_iff_getElem.1 h i j (by omega) hj (by omega)
  unfold Lib.compact Lib.compactUpTo
  rw [List.pairwise_map]
  refine List.Pairwise.imp_of_mem ?_ (List.pairwise_lt_range.filter _)
  intro i j hi hj hij
  obtain ⟨hj1, hj2⟩ := List.mem_filter.1 hj
  have hjl := List.mem_range.1 hj1
  simp only [Lib.keeps, decide_eq_true_eq] at hj2
  have h1 := hle i (j - 1) (by omega) (by omega)
  have h2 := hle (j - 1) j (by omega) hjl
  rcases hj2 with hj2 | hj2
  · omega
  · omega

set_option maxRecDepth 100000 in
set_option maxHeartbeats 4000000 in
theorem goodS_any (ea : Option Addr) (n ec : Nat) (L : Nat → List Int) (ra : Option Addr) (rc : Nat) (rs : Nat → Bool) (first q : Int) (m : Nat) (w : World) (hR : EdgesAt w ea n L) (hn : n ≤ 1000)
    (hra : 0 < n → ra = some ⟨sB ra, sO ra, none⟩) (hr : ∀ i, i < n → w.cell? ⟨sB ra, sO ra + i, none⟩ = some (.bool (rs i))) (h1 : min first (n : Int) = q) (h2 : max 0 q = (m : Int)) (hm : m ≤ n) :
    Calls Try.prog 12 #[.slice ea n ec, .slice ra n rc, .int .i64 first] w fun e w' => ∃ (a : Option Addr) (c : Nat) (zs : List Int) (p : Nat → Nat) (b f : Nat → Bool), e = .returned (.slice a zs.length c) ∧ IntsAt w' a zs.length c zs ∧ zs.length ≤ 1000 ∧ zs.Pairwise (· < ·) ∧ (∀ x, x ∈ zs ↔ x ∈ goodL p b rs f n) ∧
      IsPart n (edgeE n L) p ∧ (∀ i, i < n → (b i = true ↔ Lds (edgeE n L) i i)) ∧ (∀ v, f v = true ↔ ∃ j, j < m ∧ Rch (edgeE n L) j v) ∧ Below w.heap.size w w' := by
  obtain ⟨i0, hi, hz0, hz1, hz2⟩ := info_parts iI
  have hixr := fun k (hk : k < n) => idx_at1 (P := Try.prog) (T := 23) Try.underlying23 (show (Try.prog.info? 4).map (·.size) = some 1 by kernel_rfl) (cap := rc) (fun h0 => hra h0) hk
  have RE := fun w' (E' : EdgesAt w' ea n L) => reached_any ea n ec L first q m w' E' (by omega) h1 h2 hm
  clear h1 h2
  go_enter Try.func12, Try.ntmps12
  go_wp2_with fail
  refine (parts_any ea n ec L w hR (by omega)).mono ?_
  rintro e w1 ⟨gp, p, rfl, hp, IP, hgp, B1⟩
  have R1 := hR.below B1 (Nat.le_refl _)
  have s1 : w.heap.size ≤ w1.heap.size := B1.size
  have IP := hid IP
  go_wp2_with fail
  refine (back_any ea n ec L w1 R1 (by omega)).mono ?_
  rintro e w2 ⟨gb, b, rfl, hb, HB, hgb, B2⟩
  have R2 := R1.below B2 (Nat.le_refl _)
  have s2 : w1.heap.size ≤ w2.heap.size := B2.size
  have HB := hid HB
  go_wp2_with fail
  refine (RE w2 R2).mono ?_
  rintro e w3 ⟨gf, f, rfl, hf, HF, hgf, B3⟩
  have s3 : w2.heap.size ≤ w3.heap.size := B3.size
  have HF := hid HF
  have hp3 := (B3.block gp (by have := lt_of_blk hp; omega)).trans ((B2.block gp (lt_of_blk hp)).trans hp)
  have hb3 := (B3.block gb (lt_of_blk hb)).trans hb
  have BW : Below w.heap.size w w3 := (B1.trans (B2.mono (by omega))).trans (B3.mono (by omega))
  have lp := lt_of_blk hp3
  have lb := lt_of_blk hb3
  have lf := lt_of_blk hf
  clear hp hb B1 B2 B3 R1 R2 RE
  go_wp2_with fail
  go_loopw [10, 26] (fun ov' v wr => ∃ (k : Nat) (ov : Value), ov = ov' ∧ v = .int .i64 k ∧ k ≤ n ∧ wr.ownsRow w3.heap.size 3 1 ov (goodL p b rs f k).length (I8 (goodL p b rs f k)) ∧ Hid (goodL p b rs f k = [] → ov = .slice none 0 0) ∧ Below w3.heap.size w3 wr) (fun _ v _ => n - (intOf v).toNat)
  case atStart => exact ⟨0, _, rfl, rfl, Nat.zero_le _, World.ownsRow_nil _ _ _ _, hid (fun _ => rfl), Below.refl _ _⟩
  case round =>
    obtain ⟨k, ov, rfl, rfl, hk, OT, HN, B⟩ := hrel
    by_cases hkn : k < n
    · have k1 : (0 : Int) ≤ (k : Int) := by omega
      have k2 : (k : Int) < (n : Int) := by omega
      have cb := blk_cell ((B.block gb lb).trans hb3) (tabB_get hkn)
      have cf := blk_cell ((B.block gf lf).trans hf) (tabB_get hkn)
      have cp := blk_cell ((B.block gp lp).trans hp3) (tab_get hkn)
      have hrb := lt_of_cell (hr k hkn)
      have cr : wr.cell? ⟨sB ra, sO ra + k, none⟩ = some (.bool (rs k)) := Below.cellAt B (by have := BW.size; omega) (Below.cellAt BW hrb (hr k hkn))
      have hixk := hixr k hkn
      by_cases hall : b k = true ∧ rs k = true ∧ f k = true
      · obtain ⟨t1, t2, t3⟩ := hall
        rw [t1] at cb
        rw [t2] at cr
        rw [t3] at cf
        have GY := hid (goodL_yes (p := p) t1 t2 t3)
        have hle := goodL_le p b rs f k
        obtain ⟨M, hM⟩ : ∃ M, (goodL p b rs f k).length = M := ⟨_, rfl⟩
        rw [hM] at OT hle
        have HM := hid hM
        obtain ⟨x, hx⟩ : ∃ x, p k = x := ⟨_, rfl⟩
        rw [hx] at cp
        have HX := hid hx
        have hbs : w3.heap.size ≤ (wr.alloc (.cells #[.int .i64 x] 3)).heap.size := by have := B.size; simp; omega
        have h8 : (M + 1) * 8 ≤ 140737488355328 := by omega
        clear t1 t2 t3 hM hx
        go_wp2_with (at_builtin; refine wpList_append_row rfl _ _ 29 rfl w3.heap.size 3 i0 (.int .i64 0) Try.underlying29 hi hz0 hz1 (by omega) rfl ov M (I8 (goodL p b rs f k)) rfl (OT.alloc _) (some ⟨wr.heap.size, 0, none⟩) 1 1 [.int .i64 x] rfl (row_new _ _ _) rfl (fun h => by cases h) (fun u hu => by simp at hu; subst hu; rfl) ?c4 ?c5 ?_)
        case c4 => exact h8
        case c5 => exact hbs
        intro v' w4 o4 B4 _
        go_wp2_with fail
        go_roundw
        case measure => simp [intOf]; omega
        case rel =>
          refine ⟨k + 1, v', rfl, by go_num, by omega, ?_, hid (fun h => by rw [GY.out] at h; simp at h), (B.alloc (by have := B.size; omega) _).trans B4⟩
          rw [GY.out, List.length_append, HM.out, HX.out]
          simpa [I8] using o4
      · have hno : (b k && rs k && f k) = false := by
          cases e1 : b k <;> cases e2 : rs k <;> cases e3 : f k <;> simp_all
        have GN := hid (goodL_no (p := p) hno)
        have HR2 : Hid (∃ (k' : Nat) (ov' : Value), ov' = ov ∧ k' = k + 1 ∧ k' ≤ n ∧ wr.ownsRow w3.heap.size 3 1 ov' (goodL p b rs f k').length (I8 (goodL p b rs f k')) ∧ (goodL p b rs f k' = [] → ov' = .slice none 0 0)) :=
          hid ⟨k + 1, ov, rfl, rfl, by omega, by rw [GN.out]; exact OT, by rw [GN.out]; exact HN.out⟩
        clear hno hall
        cases e1 : b k with
        | false =>
          rw [e1] at cb
          clear e1
          go_wp2_with fail
          go_roundw
          case measure => simp [intOf]; omega
          case rel =>
            obtain ⟨k', ov', rfl, rfl, p1, p2, p3⟩ := HR2.out
            exact ⟨k + 1, ov', rfl, by go_num, p1, p2, hid p3, B⟩
        | true =>
          rw [e1] at cb
          cases e2 : rs k with
          | false =>
            rw [e2] at cr
            clear e1 e2
            go_wp2_with fail
            go_roundw
            case measure => simp [intOf]; omega
            case rel =>
              obtain ⟨k', ov', rfl, rfl, p1, p2, p3⟩ := HR2.out
              exact ⟨k + 1, ov', rfl, by go_num, p1, p2, hid p3, B⟩
          | true =>
            rw [e2] at cr
            cases e3 : f k with
            | false =>
              rw [e3] at cf
              clear e1 e2 e3
              go_wp2_with fail
              go_roundw
              case measure => simp [intOf]; omega
              case rel =>
                obtain ⟨k', ov', rfl, rfl, p1, p2, p3⟩ := HR2.out
                exact ⟨k + 1, ov', rfl, by go_num, p1, p2, hid p3, B⟩
            | true => exfalso; have := GN.out; rw [goodL_yes e1 e2 e3] at this; have := congrArg List.length this; simp at this
    · obtain rfl : n = k := by omega
      have hs : w3.heap.size ≤ wr.heap.size := B.size
      have BX : Below w.heap.size w wr := BW.trans (B.mono (by omega))
      obtain ⟨W3, rfl⟩ : ∃ W, W = wr := ⟨wr, rfl⟩
      obtain ⟨zl, hzl⟩ : ∃ zl, goodL p b rs f n = zl := ⟨_, rfl⟩
      have hlz := goodL_le p b rs f n
      rw [hzl] at OT HN hlz
      have HZ := hid hzl
      clear hzl
      by_cases hne : zl = []
      · subst hne
        obtain rfl := HN.out rfl
        go_wp2_with fail
        refine (sort0_any W3).mono ?_
        rintro e w4 ⟨rfl, B4⟩
        go_wp2_with fail
        refine (compact0_any w4).mono ?_
        rintro e w5 ⟨rfl, B5⟩
        go_wp2_with fail
        go_ret
        have := B4.size
        exact ⟨none, 0, [], p, b, f, rfl, ⟨Row.nil _ _, rfl, fun _ => ⟨rfl, rfl⟩, Nat.le_refl _, by simp [maxLen]⟩, by simp, by simp, fun x => by rw [HZ.out], IP.out, HB.out, HF.out, (BX.trans (B4.mono (by omega))).trans (B5.mono (by omega))⟩
      · have hpos : 0 < zl.length := List.length_pos_iff.2 hne
        obtain ⟨g, c, rfl, hgc⟩ := owns_some OT hpos
        have SR := sortG_any w3.heap.size g zl.length c zl W3 OT rfl (by omega) hs
        obtain ⟨M, hM⟩ : ∃ M, zl.length = M := ⟨_, rfl⟩
        have HM := hid hM
        rw [hM] at SR
        rw [hM]
        clear hM hne
        go_wp2_with fail
        refine SR.mono ?_
        rintro e w4 ⟨rfl, O4, B4⟩
        have hs4 : w3.heap.size ≤ w4.heap.size := by have := B4.size; omega
        have CR := compactG_any w3.heap.size g M c (zl.mergeSort fun x y => decide (x ≤ y)) w4 O4 (by simp [HM.out]) (by have := HM.out; omega) hs4
        go_wp2_with fail
        refine CR.mono ?_
        rintro e w5 ⟨rfl, I5, B5⟩
        go_wp2_with fail
        go_ret
        have hsw : w.heap.size ≤ w3.heap.size := BW.size
        have hcl := Lib.compact_length_le (zl.mergeSort fun x y => decide (x ≤ y))
        refine ⟨_, c, Lib.compact (zl.mergeSort fun x y => decide (x ≤ y)), p, b, f, rfl, I5, by simp at hcl; omega, asc_compact ?_, fun x => ?_, IP.out, HB.out, HF.out, (BX.trans (B4.mono hsw)).trans (B5.mono hsw)⟩
        · have := List.pairwise_mergeSort (le := fun x y : Int => decide (x ≤ y)) (fun a b c h1 h2 => by simp at h1 h2 ⊢; omega) (fun a b => by simp; omega) zl
          exact this.imp (fun h => by simpa using h)
        · rw [mem_compact, List.mem_mergeSort, HZ.out]

theorem goodG_any (ea : Option Addr) (n ec : Nat) (L : Nat → List Int) (ra : Option Addr) (rc : Nat) (rs : Nat → Bool) (first q : Int) (m : Nat) (w : World) (hR : EdgesAt w ea n L) (hn : n ≤ 1000)
    (hra : 0 < n → ra = some ⟨sB ra, sO ra, none⟩) (hr : ∀ i, i < n → w.cell? ⟨sB ra, sO ra + i, none⟩ = some (.bool (rs i))) (h1 : min first (n : Int) = q) (h2 : max 0 q = (m : Int)) (hm : m ≤ n) :
    Calls Try.prog 12 #[.slice ea n ec, .slice ra n rc, .int .i64 first] w fun e w' => ∃ (a : Option Addr) (c : Nat) (zs : List Int) (p : Nat → Nat) (b f : Nat → Bool), e = .returned (.slice a zs.length c) ∧ IntsAt w' a zs.length c zs ∧ zs.length ≤ 1000 ∧ (∀ x, x ∈ zs ↔ x ∈ goodL p b rs f n) ∧
      IsPart n (edgeE n L) p ∧ (∀ i, i < n → (b i = true ↔ Lds (edgeE n L) i i)) ∧ (∀ v, f v = true ↔ ∃ j, j < m ∧ Rch (edgeE n L) j v) ∧ Below w.heap.size w w' :=
  (goodS_any ea n ec L ra rc rs first q m w hR hn hra hr h1 h2 hm).mono fun _ _ ⟨a, c, zs, p, b, f, e1, e2, e3, _, e4⟩ => ⟨a, c, zs, p, b, f, e1, e2, e3, e4⟩

end Go.Proofs.Ytkflhmpecfckfaa
