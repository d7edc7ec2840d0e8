/- scc.Good where what comes out is of two numbers at most, ascending -/
import Derived.Test.YtkflhmpecfckfaaSortS
open Go Go.RowKit
namespace Go.Proofs.Ytkflhmpecfckfaa
open Tj

def goodL (p : Nat → Nat) (b rs f : Nat → Bool) (k : Nat) : List Int := ((List.range k).filter fun i => b i && rs i && f i).map fun i => (p i : Int)
theorem goodL_yes {p : Nat → Nat} {b rs f : Nat → Bool} {k : Nat} (h1 : b k = true) (h2 : rs k = true) (h3 : f k = true) : goodL p b rs f (k + 1) = goodL p b rs f k ++ [(p k : Int)] := by
  simp [goodL, List.range_succ, List.filter_append, h1, h2, h3]
theorem goodL_no {p : Nat → Nat} {b rs f : Nat → Bool} {k : Nat} (h : (b k && rs k && f k) = false) : goodL p b rs f (k + 1) = goodL p b rs f k := by
  unfold goodL
  rw [List.range_succ, List.filter_append, List.filter_cons_of_neg (by rw [h]; decide), List.filter_nil, List.append_nil]
theorem goodL_le (p : Nat → Nat) (b rs f : Nat → Bool) (k : Nat) : (goodL p b rs f k).length ≤ k := by
  unfold goodL
  rw [List.length_map]
  have := List.length_filter_le (fun i => b i && rs i && f i) (List.range k)
  simpa using this

theorem list3 {zs : List Int} (h : zs.length ≤ 2) : zs = [] ∨ (∃ x, zs = [x]) ∨ ∃ x y, zs = [x, y] := by
  rcases zs with _ | ⟨x, _ | ⟨y, _ | ⟨z, l⟩⟩⟩
  · exact .inl rfl
  · exact .inr (.inl ⟨x, rfl⟩)
  · exact .inr (.inr ⟨x, y, rfl⟩)
  · simp at h

set_option maxRecDepth 100000 in
set_option maxHeartbeats 4000000 in
theorem good_any (ea : Option Addr) (n ec : Nat) (L : Nat → List Int) (rb rc : Nat) (rs : Nat → Bool) (first q : Int) (m : Nat) (zs : List Int) (w : World) (hR : EdgesAt w ea n L) (hn : n ≤ 1000) (hn0 : 0 < n)
    (hr : ∀ i, i < n → w.cell? ⟨rb, i, none⟩ = some (.bool (rs i))) (h1 : min first (n : Int) = q) (h2 : max 0 q = (m : Int)) (hm : m ≤ n) (hz : zs.length ≤ 2) (ha : Asc zs)
    (hout : ∀ (p : Nat → Nat) (b f : Nat → Bool), IsPart n (edgeE n L) p → (∀ i, i < n → (b i = true ↔ Lds (edgeE n L) i i)) → (∀ v, f v = true ↔ ∃ j, j < m ∧ Rch (edgeE n L) j v) → goodL p b rs f n = zs) :
    Calls Try.prog 12 #[.slice ea n ec, .slice (some ⟨rb, 0, none⟩) n rc, .int .i64 first] w fun e w' => ∃ a c, e = .returned (.slice a zs.length c) ∧ IntsAt w' a zs.length c zs ∧ Below w.heap.size w w' := by
  obtain ⟨i0, hi, hz0, hz1, hz2⟩ := info_parts iI
  have hrb : rb < w.heap.size := lt_of_cell (hr 0 hn0)
  have RE := fun w' (E' : EdgesAt w' ea n L) => reached_any ea n ec L first q m w' E' (by omega) h1 h2 hm
  have HO := hid hout
  have HA := hid ha
  clear h1 h2 hout ha
  go_enter Try.func12, Try.ntmps12
  go_wp2_with fail
  refine (parts_any ea n ec L w hR (by omega)).mono ?_
  rintro e w1 ⟨gp, p, rfl, hp, IP, hgp, B1⟩
  have R1 := hR.below B1 (Nat.le_refl _)
  have s1 : w.heap.size ≤ w1.heap.size := B1.size
  have IP := hid IP
  go_wp2_with fail
  refine (back_any ea n ec L w1 R1 (by omega)).mono ?_
  rintro e w2 ⟨gb, b, rfl, hb, HB, hgb, B2⟩
  have R2 := R1.below B2 (Nat.le_refl _)
  have s2 : w1.heap.size ≤ w2.heap.size := B2.size
  have HB := hid HB
  go_wp2_with fail
  refine (RE w2 R2).mono ?_
  rintro e w3 ⟨gf, f, rfl, hf, HF, hgf, B3⟩
  have s3 : w2.heap.size ≤ w3.heap.size := B3.size
  have HF := hid HF
  have HZ := hid (HO.out p b f IP.out HB.out HF.out)
  have hp3 := (B3.block gp (by have := lt_of_blk hp; omega)).trans ((B2.block gp (lt_of_blk hp)).trans hp)
  have hb3 := (B3.block gb (lt_of_blk hb)).trans hb
  have BW : Below w.heap.size w w3 := (B1.trans (B2.mono (by omega))).trans (B3.mono (by omega))
  have lp := lt_of_blk hp3
  have lb := lt_of_blk hb3
  have lf := lt_of_blk hf
  clear hp hb B1 B2 B3 R1 R2 RE HO
  go_wp2_with fail
  go_loopw [10, 26] (fun ov' v wr => ∃ (k : Nat) (ov : Value), ov = ov' ∧ v = .int .i64 k ∧ k ≤ n ∧ wr.ownsRow w3.heap.size 3 1 ov (goodL p b rs f k).length (I8 (goodL p b rs f k)) ∧ Hid (goodL p b rs f k = [] → ov = .slice none 0 0) ∧ Below w3.heap.size w3 wr) (fun _ v _ => n - (intOf v).toNat)
  case atStart => exact ⟨0, _, rfl, rfl, Nat.zero_le _, World.ownsRow_nil _ _ _ _, hid (fun _ => rfl), Below.refl _ _⟩
  case round =>
    obtain ⟨k, ov, rfl, rfl, hk, OT, HN, B⟩ := hrel
    by_cases hkn : k < n
    · have k1 : (0 : Int) ≤ (k : Int) := by omega
      have k2 : (k : Int) < (n : Int) := by omega
      have cb := blk_cell ((B.block gb lb).trans hb3) (tabB_get hkn)
      have cf := blk_cell ((B.block gf lf).trans hf) (tabB_get hkn)
      have cp := blk_cell ((B.block gp lp).trans hp3) (tab_get hkn)
      have cr : wr.cell? ⟨rb, k, none⟩ = some (.bool (rs k)) := Below.cellAt B (by omega) (Below.cellAt BW hrb (hr k hkn))
      by_cases hall : b k = true ∧ rs k = true ∧ f k = true
      · obtain ⟨t1, t2, t3⟩ := hall
        rw [t1] at cb
        rw [t2] at cr
        rw [t3] at cf
        have GY := hid (goodL_yes (p := p) t1 t2 t3)
        have hle := goodL_le p b rs f k
        obtain ⟨M, hM⟩ : ∃ M, (goodL p b rs f k).length = M := ⟨_, rfl⟩
        rw [hM] at OT hle
        have HM := hid hM
        obtain ⟨x, hx⟩ : ∃ x, p k = x := ⟨_, rfl⟩
        rw [hx] at cp
        have HX := hid hx
        have hbs : w3.heap.size ≤ (wr.alloc (.cells #[.int .i64 x] 3)).heap.size := by have := B.size; simp; omega
        have h8 : (M + 1) * 8 ≤ 140737488355328 := by omega
        clear t1 t2 t3 hM hx
        go_wp2_with (at_builtin; refine wpList_append_row rfl _ _ 29 rfl w3.heap.size 3 i0 (.int .i64 0) Try.underlying29 hi hz0 hz1 (by omega) rfl ov M (I8 (goodL p b rs f k)) rfl (OT.alloc _) (some ⟨wr.heap.size, 0, none⟩) 1 1 [.int .i64 x] rfl (row_new _ _ _) rfl (fun h => by cases h) (fun u hu => by simp at hu; subst hu; rfl) ?c4 ?c5 ?_)
        case c4 => exact h8
        case c5 => exact hbs
        intro v' w4 o4 B4 _
        go_wp2_with fail
        go_roundw
        case measure => simp [intOf]; omega
        case rel =>
          refine ⟨k + 1, v', rfl, by go_num, by omega, ?_, hid (fun h => by rw [GY.out] at h; simp at h), (B.alloc (by have := B.size; omega) _).trans B4⟩
          rw [GY.out, List.length_append, HM.out, HX.out]
          simpa [I8] using o4
      · have hno : (b k && rs k && f k) = false := by
          cases e1 : b k <;> cases e2 : rs k <;> cases e3 : f k <;> simp_all
        have GN := hid (goodL_no (p := p) hno)
        have HR2 : Hid (∃ (k' : Nat) (ov' : Value), ov' = ov ∧ k' = k + 1 ∧ k' ≤ n ∧ wr.ownsRow w3.heap.size 3 1 ov' (goodL p b rs f k').length (I8 (goodL p b rs f k')) ∧ (goodL p b rs f k' = [] → ov' = .slice none 0 0)) :=
          hid ⟨k + 1, ov, rfl, rfl, by omega, by rw [GN.out]; exact OT, by rw [GN.out]; exact HN.out⟩
        clear hno hall
        cases e1 : b k with
        | false =>
          rw [e1] at cb
          clear e1
          go_wp2_with fail
          go_roundw
          case measure => simp [intOf]; omega
          case rel =>
            obtain ⟨k', ov', rfl, rfl, p1, p2, p3⟩ := HR2.out
            exact ⟨k + 1, ov', rfl, by go_num, p1, p2, hid p3, B⟩
        | true =>
          rw [e1] at cb
          cases e2 : rs k with
          | false =>
            rw [e2] at cr
            clear e1 e2
            go_wp2_with fail
            go_roundw
            case measure => simp [intOf]; omega
            case rel =>
              obtain ⟨k', ov', rfl, rfl, p1, p2, p3⟩ := HR2.out
              exact ⟨k + 1, ov', rfl, by go_num, p1, p2, hid p3, B⟩
          | true =>
            rw [e2] at cr
            cases e3 : f k with
            | false =>
              rw [e3] at cf
              clear e1 e2 e3
              go_wp2_with fail
              go_roundw
              case measure => simp [intOf]; omega
              case rel =>
                obtain ⟨k', ov', rfl, rfl, p1, p2, p3⟩ := HR2.out
                exact ⟨k + 1, ov', rfl, by go_num, p1, p2, hid p3, B⟩
            | true => exfalso; have := GN.out; rw [goodL_yes e1 e2 e3] at this; have := congrArg List.length this; simp at this
    · obtain rfl : n = k := by omega
      rw [HZ.out] at OT HN
      have hs : w3.heap.size ≤ wr.heap.size := B.size
      have BX : Below w.heap.size w wr := BW.trans (B.mono (by omega))
      obtain ⟨W3, rfl⟩ : ∃ W, W = wr := ⟨wr, rfl⟩
      have HA := HA.out
      rcases list3 hz with hzs | ⟨x, hzs⟩ | ⟨x, y, hzs⟩
      · rw [hzs] at OT HN HA
        have HZS := hid hzs
        obtain rfl := HN.out rfl
        clear hzs
        go_wp2_with fail
        refine (sort0_any W3).mono ?_
        rintro e w4 ⟨rfl, B4⟩
        go_wp2_with fail
        refine (compact0_any w4).mono ?_
        rintro e w5 ⟨rfl, B5⟩
        go_wp2_with fail
        go_ret
        have := B4.size
        rw [HZS.out]
        exact ⟨none, 0, rfl, ⟨Row.nil _ _, rfl, fun _ => ⟨rfl, rfl⟩, Nat.le_refl _, by simp [maxLen]⟩, (BX.trans (B4.mono (by omega))).trans (B5.mono (by omega))⟩
      · rw [hzs] at OT HN HA
        have HZS := hid hzs
        have HA := hid HA
        clear hzs
        obtain ⟨g, c, rfl, hgc⟩ := owns_some OT (by simp)
        obtain ⟨a', c', hv, _, h1, h2, hrow, _, _⟩ := row_of_owns OT
        cases hv
        have SR := sort1_any g c [x] W3 hrow rfl HA.out
        simp only [List.length_cons, List.length_nil] at OT h1 ⊢
        clear hgc
        go_wp2_with fail
        refine SR.mono ?_
        rintro e w4 ⟨rfl, B4⟩
        go_wp2_with fail
        refine (compact1_any g c w4).mono ?_
        rintro e w5 ⟨rfl, B5⟩
        go_wp2_with fail
        go_ret
        have hs4 := B4.size
        rw [HZS.out]
        exact ⟨_, c, rfl, ⟨(hrow.below B4 (Nat.le_refl _)).below B5 (Nat.le_refl _), rfl, (fun h => by cases h), h1, h2⟩, (BX.trans (B4.mono (by omega))).trans (B5.mono (by omega))⟩
      · rw [hzs] at OT HN HA
        have HZS := hid hzs
        have HA := hid HA
        clear hzs
        obtain ⟨g, c, rfl, hgc⟩ := owns_some OT (by simp)
        obtain ⟨a', c', hv, _, h1, h2, hrow, _, _⟩ := row_of_owns OT
        cases hv
        have SR := sort2_any g c [x, y] W3 hrow rfl HA.out
        have hxy : x < y := by have := HA.out 0 (by simp); simpa using this
        have cx : W3.cell? ⟨g, 0, none⟩ = some (.int .i64 x) := hrow.num (i := 0) (by simp)
        have cy : W3.cell? ⟨g, 1, none⟩ = some (.int .i64 y) := hrow.num (i := 1) (by simp)
        simp only [List.length_cons, List.length_nil] at OT h1 ⊢
        clear hgc
        go_wp2_with fail
        refine SR.mono ?_
        rintro e w4 ⟨rfl, B4⟩
        have CC := compact2_any g c x y hxy w4 (Below.cellAt B4 (lt_of_cell cx) cx) (Below.cellAt B4 (lt_of_cell cy) cy)
        go_wp2_with fail
        refine CC.mono ?_
        rintro e w5 ⟨rfl, B5⟩
        go_wp2_with fail
        go_ret
        have hs4 := B4.size
        rw [HZS.out]
        exact ⟨_, c, rfl, ⟨(hrow.below B4 (Nat.le_refl _)).below B5 (Nat.le_refl _), rfl, (fun h => by cases h), h1, h2⟩, (BX.trans (B4.mono (by omega))).trans (B5.mono (by omega))⟩

end Go.Proofs.Ytkflhmpecfckfaa
