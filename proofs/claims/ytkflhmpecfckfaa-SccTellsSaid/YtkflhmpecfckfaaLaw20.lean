/- lariatlaw20: edges, known, and lariatref7.SameInts -/
import Derived.Test.YtkflhmpecfckfaaBackW
import Derived.Test.YtkflhmpecfckfaaHand
open Go Go.RowKit
namespace Go.Proofs.Ytkflhmpecfckfaa
open Tj

/-- the same numbers -/
theorem take_eq_step {xs ys : List Int} {i : Nat} (h : xs.take i = ys.take i) (hx : i < xs.length) (hy : i < ys.length) (e : xs[i]?.getD 0 = ys[i]?.getD 0) : xs.take (i + 1) = ys.take (i + 1) := by
  rw [take_succ_get hx, take_succ_get hy, h, e]

set_option maxHeartbeats 1000000 in
theorem sameInts_any (a : Option Addr) (la ca : Nat) (xs : List Int) (b : Option Addr) (lb cb : Nat) (ys : List Int) (w : World) (ha : Row w a (I8 xs)) (hb : Row w b (I8 ys)) (hla : xs.length = la) (hlb : ys.length = lb) (hm : la ≤ 1000000) :
    Calls Try.prog 9 #[.slice a la ca, .slice b lb cb] w fun e w' => ∃ r, e = .returned (.bool r) ∧ (r = true ↔ xs = ys) ∧ Below w.heap.size w w' := by
  by_cases hl : la = lb
  · subst hl
    have HA := hid hla
    have HB := hid hlb
    clear hla hlb
    have hia := fun k (hk : k < la) => idx_at1 (P := Try.prog) (T := 29) Try.underlying29 szI (cap := ca) (fun _ => ha.nn (by simp; have := HA.out; omega)) hk
    have hib := fun k (hk : k < la) => idx_at1 (P := Try.prog) (T := 29) Try.underlying29 szI (cap := cb) (fun _ => hb.nn (by simp; have := HB.out; omega)) hk
    go_enter Try.func9, Try.ntmps9
    go_wp2_with fail
    go_loopw [5] (fun v wr => ∃ i : Nat, v = .int .i64 i ∧ i ≤ la ∧ Hid (xs.take i = ys.take i) ∧ Below w.heap.size w wr) (fun v _ => la - (intOf v).toNat)
    case atStart => exact ⟨0, rfl, Nat.zero_le _, hid rfl, Below.refl _ _⟩
    case round =>
      obtain ⟨i, rfl, hi, he, B⟩ := hrel
      by_cases hin : i < la
      · have h1 := hia i hin
        have h2 := hib i hin
        have hxa : i < xs.length := by rw [HA.out]; exact hin
        have hyb : i < ys.length := by rw [HB.out]; exact hin
        have ca := (ha.below B (Nat.le_refl _)).num hxa
        have cb := (hb.below B (Nat.le_refl _)).num hyb
        by_cases e : xs[i]?.getD 0 = ys[i]?.getD 0
        · have HE := hid (take_eq_step he.out hxa hyb e)
          rw [e] at ca
          clear hxa hyb e
          obtain ⟨y, hy⟩ : ∃ y, ys[i]?.getD 0 = y := ⟨_, rfl⟩
          rw [hy] at ca cb
          clear hy
          have S0 : wr.drew.cell? ⟨sB a, sO a + i, none⟩ = some (.int .i64 y) ∧ wr.drew.cell? ⟨sB b, sO b + i, none⟩ = some (.int .i64 y) := ⟨ca, cb⟩
          go_wp2_with fail
          go_region_held3 (fun w' => w'.cell? ⟨sB a, sO a + i, none⟩ = some (.int .i64 y) ∧ w'.cell? ⟨sB b, sO b + i, none⟩ = some (.int .i64 y)) (first | exact S0 | assumption) (fail)
          go_wp2_with fail
          go_roundw
          case measure => simp [intOf]; omega
          case rel => exact ⟨i + 1, by go_num, by omega, HE, B.drew⟩
        · have HE : Hid (xs ≠ ys) := hid (fun h => e (by rw [h]))
          have hne : (xs[i]?.getD 0 == ys[i]?.getD 0) = false := by simp only [beq_eq_false_iff_ne]; exact e
          clear hxa hyb e
          obtain ⟨x, hx⟩ : ∃ x, xs[i]?.getD 0 = x := ⟨_, rfl⟩
          obtain ⟨y, hy⟩ : ∃ y, ys[i]?.getD 0 = y := ⟨_, rfl⟩
          rw [hx] at ca hne
          rw [hy] at cb hne
          clear hx hy
          have S0 : wr.drew.cell? ⟨sB a, sO a + i, none⟩ = some (.int .i64 x) ∧ wr.drew.cell? ⟨sB b, sO b + i, none⟩ = some (.int .i64 y) := ⟨ca, cb⟩
          go_wp2_with fail
          go_region_held3 (fun w' => w'.cell? ⟨sB a, sO a + i, none⟩ = some (.int .i64 x) ∧ w'.cell? ⟨sB b, sO b + i, none⟩ = some (.int .i64 y)) (first | exact S0 | assumption) (fail)
          go_wp2_with fail
          go_ret
          exact ⟨false, rfl, by simpa using HE.out, B.drew⟩
      · obtain rfl : la = i := by omega
        have HE : Hid (xs = ys) := hid (by have := he.out; rwa [← HA.out, List.take_length, HA.out, ← HB.out, List.take_length] at this)
        clear he
        go_wp2_with fail
        go_ret
        exact ⟨true, rfl, by simpa using HE.out, B⟩
  · have hne : ((la : Int) == (lb : Int)) = false := by simp; omega
    have HE : Hid (xs ≠ ys) := hid (fun h => hl (by rw [← hla, ← hlb, h]))
    clear hl
    go_enter Try.func9, Try.ntmps9
    go_wp2_with fail
    go_ret
    exact ⟨false, rfl, by simpa using HE.out, Below.refl _ _⟩

/-- rows that came in -/
structure RowsIn (w : World) (a : Option Addr) (len : Nat) : Prop where
  nn : 0 < len → a = some ⟨sB a, sO a, none⟩
  row : ∀ r, r < len → ∃ ar lr cr zs, w.cell? ⟨sB a, sO a + r, none⟩ = some (.slice ar lr cr) ∧ IntsAt w ar lr cr zs ∧ IsNums zs
theorem RowsIn.below {w w' : World} {a : Option Addr} {n : Nat} (h : RowsIn w a n) {B : Nat} (hb : Below B w w') (hB : w.heap.size ≤ B) : RowsIn w' a n := by
  refine ⟨h.nn, fun v hv => ?_⟩
  obtain ⟨a, l, c, zs, h1, h2, h3⟩ := h.row v hv
  exact ⟨a, l, c, zs, Below.cellAt hb (Nat.lt_of_lt_of_le (lt_of_cell h1) hB) h1, h2.below hb hB, h3⟩

/-- the headers of rows of numbers that were laid -/
structure HdrsL (w : World) (B : Nat) (ev : Value) (hs : List Value) (LL : List (List Int)) : Prop where
  len : hs.length = LL.length
  row : ∀ v, v < LL.length → ∃ a c, hs[v]? = some (.slice a (LL[v]?.getD []).length c) ∧ IntsAt w a (LL[v]?.getD []).length c (LL[v]?.getD []) ∧ (0 < (LL[v]?.getD []).length → B ≤ sB a ∧ sB a < w.heap.size ∧ ev.ownBlock ≠ some (sB a))
theorem HdrsL.nil (w : World) (B : Nat) (ev : Value) : HdrsL w B ev [] [] := ⟨rfl, fun v hv => by simp at hv⟩
theorem HdrsL.ext {w w' : World} {B : Nat} {ev : Value} {hs : List Value} {LL : List (List Int)} (h : HdrsL w B ev hs LL) (hx : Below w.heap.size w w') : HdrsL w' B ev hs LL := by
  refine ⟨h.len, fun v hv => ?_⟩
  obtain ⟨a, c, h1, h2, h3⟩ := h.row v hv
  refine ⟨a, c, h1, h2.below hx (Nat.le_refl _), fun h0 => ?_⟩
  obtain ⟨p1, p2, p3⟩ := h3 h0
  have := hx.size
  exact ⟨p1, by omega, p3⟩
theorem HdrsL.snoc {w w' : World} {B gg : Nat} {ev ev' : Value} {hs : List Value} {LL : List (List Int)} (h : HdrsL w B ev hs LL) (hx : Ext (fun q => ev.ownBlock = some q) w w')
    (hev' : ev'.ownBlock = some gg) (hgg : ev.ownBlock = some gg ∨ w.heap.size ≤ gg)
    {a : Option Addr} {c : Nat} {zs : List Int} (hI : IntsAt w a zs.length c zs) (hl : 0 < zs.length → B ≤ sB a ∧ sB a < w.heap.size ∧ ev.ownBlock ≠ some (sB a)) : HdrsL w' B ev' (hs ++ [.slice a zs.length c]) (LL ++ [zs]) := by
  have hsz := hx.size
  have key : ∀ {b : Option Addr} {m cc : Nat} {ys : List Int}, IntsAt w b m cc ys → (0 < m → B ≤ sB b ∧ sB b < w.heap.size ∧ ev.ownBlock ≠ some (sB b)) → IntsAt w' b m cc ys ∧ (0 < m → B ≤ sB b ∧ sB b < w'.heap.size ∧ ev'.ownBlock ≠ some (sB b)) := by
    intro b m cc ys h2 h3
    refine ⟨h2.ext hx (fun h0 hF => (h3 h0).2.2 hF), fun h0 => ?_⟩
    obtain ⟨p1, p2, p3⟩ := h3 h0
    refine ⟨p1, by omega, ?_⟩
    rw [hev']
    intro e
    cases e
    rcases hgg with h4 | h4
    · exact p3 h4
    · omega
  refine ⟨by simp [h.len], fun v hv => ?_⟩
  rw [List.length_append, List.length_singleton] at hv
  by_cases e : v = LL.length
  · subst e
    rw [List.getElem?_append_right (Nat.le_refl _), Nat.sub_self, ← h.len, List.getElem?_append_right (Nat.le_refl _), Nat.sub_self]
    exact ⟨a, c, rfl, key hI hl⟩
  · obtain ⟨a', c', h1, h2, h3⟩ := h.row v (by omega)
    rw [List.getElem?_append_left (by have := h.len; omega), List.getElem?_append_left (by have := h.len; omega)]
    exact ⟨a', c', h1, key h2 h3⟩
theorem HdrsL.edges {w : World} {B g cap : Nat} {hs : List Value} {LL : List (List Int)} (h : HdrsL w B (.slice (some ⟨g, 0, none⟩) LL.length cap) hs LL) (ho : w.ownsRow B 29 1 (.slice (some ⟨g, 0, none⟩) LL.length cap) LL.length hs) (hm : ∀ l ∈ LL, l.length ≤ 1000000) :
    EdgesAt w (some ⟨g, 0, none⟩) LL.length (fun v => LL[v]?.getD []) := by
  refine ⟨fun _ => rfl, fun v hv => ?_⟩
  obtain ⟨a, c, h1, h2, h3⟩ := h.row v hv
  refine ⟨a, _, c, ?_, h2, ?_⟩
  · show w.cell? ⟨g, 0 + v, none⟩ = _
    rw [Nat.zero_add, ho.cellAt v (by omega)]; exact h1
  · rw [List.getElem?_eq_getElem hv]; exact hm _ (List.getElem_mem hv)

set_option maxRecDepth 100000 in
set_option maxHeartbeats 4000000 in
theorem edges_any (a : Option Addr) (len cap most : Nat) (w : World) (h : RowsIn w a len) (hm : most ≤ 1000) (hlb : len ≤ 9223372036854775807) :
    Calls Try.prog 5 #[.slice a len cap, .int .i64 most] w fun e w' => ∃ (out : Option Addr) (n c : Nat) (LL : List (List Int)), e = .returned (.slice out n c) ∧ LL.length = n ∧ n ≤ most ∧ EdgesAt w' out n (fun v => LL[v]?.getD []) ∧ (∀ l ∈ LL, l.length ≤ 4) ∧ Below w.heap.size w w' := by
  obtain ⟨n, hn1, hn2, hn3⟩ : ∃ n : Nat, min (len : Int) (most : Int) = (n : Int) ∧ n ≤ len ∧ n ≤ most := ⟨min len most, by omega, by omega, by omega⟩
  obtain ⟨i0, hi, hz0, hz1, hz2⟩ := info_parts iI
  obtain ⟨j0, ji, jz0, jz1, jz2⟩ := info_parts iS
  go_enter Try.func5, Try.ntmps5
  go_wp2_with fail
  go_loopw [6, 7] (fun vo' vi wr => ∃ (i : Nat) (LL : List (List Int)) (hs : List Value) (vo : Value), vi = .int .i64 i ∧ vo = vo' ∧ i ≤ n ∧ Hid (LL.length = i) ∧ wr.ownsRow w.heap.size 29 1 vo i hs ∧ Hid (HdrsL wr w.heap.size vo hs LL) ∧ Hid (∀ l ∈ LL, l.length ≤ 4) ∧ Below w.heap.size w wr) (fun _ v _ => n - (intOf v).toNat)
  case atStart => exact ⟨0, [], [], _, rfl, rfl, Nat.zero_le _, hid rfl, World.ownsRow_nil _ _ _ _, hid (HdrsL.nil _ _ _), hid (by simp), Below.refl _ _⟩
  case round =>
    obtain ⟨i, LL, hs, vo, rfl, rfl, hin, hLi, OW, HD, H4, B⟩ := hrel
    obtain ⟨W2, rfl⟩ : ∃ W, W = wr := ⟨wr, rfl⟩
    by_cases hlt : i < n
    · have hB := h.below B (Nat.le_refl _)
      obtain ⟨ar, lr, cr, zs, hc, hI, hN⟩ := hB.row i (by omega)
      have hixo := idx_at1 (P := Try.prog) (T := 22) Try.underlying22 (show (Try.prog.info? 29).map (·.size) = some 1 by kernel_rfl) (cap := cap) (fun _ => h.nn (by omega)) (show i < len by omega)
      have hixi := fun k (hk : k < lr) => idx_at1 (P := Try.prog) (T := 29) Try.underlying29 szI (cap := cr) (fun _ => hI.row.nn (by simp; have := hI.len; omega)) hk
      have hsz2 : w.heap.size ≤ W2.heap.size := B.size
      go_wp2_with fail
      go_loopw [8, 9] (fun ve' vk wx => ∃ (k : Nat) (es : List Int) (ve : Value), vk = .int .i64 k ∧ ve = ve' ∧ k ≤ 4 ∧ k ≤ lr ∧ Hid (es.length = k) ∧ wx.ownsRow W2.heap.size 3 1 ve k (I8 es) ∧ Below W2.heap.size W2 wx) (fun _ v _ => 4 - (intOf v).toNat)
      case atStart => exact ⟨0, [], _, rfl, rfl, by omega, by omega, hid rfl, World.ownsRow_nil _ _ _ _, Below.refl _ _⟩
      case round =>
        obtain ⟨k, es, ve, rfl, rfl, hk4, hkl, hes, OE, BX⟩ := hrel
        have hcx : wr.cell? ⟨sB a, sO a + i, none⟩ = some (.slice ar lr cr) := Below.cellAt BX (lt_of_cell hc) hc
        have hIx := hI.below BX (Nat.le_refl _)
        have hwx : W2.heap.size ≤ wr.heap.size := BX.size
        by_cases hk : k < lr ∧ k < 4
        · obtain ⟨hk1, hk2⟩ := hk
          have hixk := hixi k hk1
          have hck := hIx.row.num (i := k) (by rw [hIx.len]; exact hk1)
          have hxb := hN.get k
          obtain ⟨x, hx⟩ : ∃ x, zs[k]?.getD 0 = x := ⟨_, rfl⟩
          rw [hx] at hck hxb
          clear hx
          have hk5 : (k : Int) < 4 := by omega
          have hbs : W2.heap.size ≤ (wr.alloc (.cells #[.int .i64 x] 3)).heap.size := by simp; omega
          have hbs2 : ∀ y : Int, W2.heap.size ≤ (wr.alloc (.cells #[.int .i64 y] 3)).heap.size := by intro y; simp; omega
          have PC := pick_any x n wr hxb (by omega) (by omega)
          by_cases hq : x.tmod 41 = 40
          · go_wp2_with fail
            refine PC.mono ?_
            rintro e w3 ⟨rfl, rfl⟩
            go_wp2_with (at_builtin; refine wpList_append_row rfl _ _ 29 rfl W2.heap.size 3 i0 (.int .i64 0) Try.underlying29 hi hz0 hz1 (by omega) rfl ve k (I8 es) rfl (OE.alloc _) (some ⟨wr.heap.size, 0, none⟩) 1 1 [.int .i64 x] rfl (row_new _ _ _) rfl (fun h => by cases h) (fun u hu => by simp at hu; subst hu; rfl) ?c4 ?c5 ?_)
            case c4 => omega
            case c5 => exact hbs
            intro v' w4 o4 B4 _
            go_wp2_with fail
            go_roundw
            case measure => simp [intOf]; omega
            case rel => exact ⟨k + 1, es ++ [x], v', by go_num, rfl, by omega, by omega, hid (by simp [hes.out]), by simpa [I8] using o4, (BX.alloc (by omega) _).trans B4⟩
          · have hqn : (x.tmod 41 == 40) = false := by simp only [beq_eq_false_iff_ne]; exact hq
            go_wp2_with fail
            refine PC.mono ?_
            rintro e w3 ⟨rfl, rfl⟩
            go_wp2_with (at_builtin; refine wpList_append_row rfl _ _ 29 rfl W2.heap.size 3 i0 (.int .i64 0) Try.underlying29 hi hz0 hz1 (by omega) rfl ve k (I8 es) rfl (OE.alloc _) (some ⟨wr.heap.size, 0, none⟩) 1 1 [.int .i64 (x % n)] rfl (row_new _ _ _) rfl (fun h => by cases h) (fun u hu => by simp at hu; subst hu; rfl) ?d4 ?d5 ?_)
            case d4 => omega
            case d5 => exact hbs2 _
            intro v' w4 o4 B4 _
            go_wp2_with fail
            go_roundw
            case measure => simp [intOf]; omega
            case rel => exact ⟨k + 1, es ++ [x % n], v', by go_num, rfl, by omega, by omega, hid (by simp [hes.out]), by simpa [I8] using o4, (BX.alloc (by omega) _).trans B4⟩
        · obtain ⟨ae, ce, rfl, hle, hkc, hcm, hre, hbe, hne⟩ := row_of_owns OE
          have OW2 := Below.owns BX (Nat.le_refl _) OW
          have hbs : w.heap.size ≤ (wr.alloc (.cells #[.slice ae k ce] 29)).heap.size := by simp; omega
          have hIe : IntsAt wr ae es.length ce es := ⟨hre, rfl, owns_cap (by rw [hes.out]; exact OE), by have := hes.out; omega, hcm⟩
          have hloc : 0 < es.length → w.heap.size ≤ sB ae ∧ sB ae < (wr.alloc (.cells #[.slice ae k ce] 29)).heap.size ∧ vo.ownBlock ≠ some (sB ae) := fun h0 => by
            obtain ⟨h1, h2⟩ := hbe (by have := hes.out; omega)
            refine ⟨by omega, by simp; omega, fun e => ?_⟩
            have := (OW.lt _ e).2
            omega
          have hHD := (HD.out.ext BX).ext ((Below.refl _ wr).alloc (Nat.le_refl _) (.cells #[.slice ae k ce] 29))
          have hIe2 := hIe.below ((Below.refl _ wr).alloc (Nat.le_refl _) (.cells #[.slice ae k ce] 29)) (Nat.le_refl _)
          have HH := hid (And.intro hHD (And.intro hIe2 hloc))
          have hkk : ((k : Int) < (lr : Int)) → ¬ ((k : Int) < 4) := fun h1 h2 => hk (by omega)
          have hin2 : (i + 1) * 24 ≤ 140737488355328 := by omega
          have hin3 : i + 1 ≤ maxLen := by simp only [maxLen]; omega
          clear hHD hIe2 hloc hIe hI hIx hre hbe
          go_wp2_with (at_builtin; refine wpList_append_lies (P := Try.prog) _ rfl _ _ 22 rfl w.heap.size 29 j0 (.slice none 0 0) 1 24 Try.underlying22 ji jz0 jz1 jz2 rfl (by decide) vo i hs rfl (OW2.alloc _) ⟨wr.heap.size, 0, none⟩ 1 1 [.slice ae k ce] rfl rfl (row_new wr #[.slice ae k ce] 29).news (fun u hu => by simp at hu; subst hu; rfl) (by decide) hin3 hin2 hbs (wr.heap.size + 1) (by simp) ?_)
          all_goals
            intro g cap1 w6 O6 G6 hat hlt2
            go_wp2_with fail
            go_roundw
            case measure => simp [intOf]; omega
            case rel =>
              obtain ⟨h1, h2, h3⟩ := HH.out
              have hsn := h1.snoc (ev' := .slice (some ⟨g, 0, none⟩) (i + 1) cap1) (Ext.of_grown G6) rfl (by rcases hat with h | h; exact .inl h; exact .inr (by simp; omega)) h2 h3
              rw [hes.out] at hsn
              refine ⟨i + 1, LL ++ [es], hs ++ [.slice ae k ce], .slice (some ⟨g, 0, none⟩) (i + 1) cap1, by go_num, rfl, by omega, hid (by simp [hLi.out]), O6, hid hsn, hid (fun l hl => ?_), ((B.trans (BX.mono (by omega))).alloc (by omega) _).grown G6 (by simp; omega) (fun q hq => (OW.lt q hq).1)⟩
              rcases List.mem_append.1 hl with hl | hl
              · exact H4.out l hl
              · simp at hl; subst hl; rw [hes.out]; omega
    · obtain rfl : n = i := by omega
      obtain ⟨ao, co, rfl⟩ := owns_slice OW
      go_wp2_with fail
      go_ret
      refine ⟨ao, n, co, LL, rfl, hLi.out, hn3, ?_, H4.out, B⟩
      rcases OW.2 with ⟨hv, h0⟩ | ⟨g, cap', cur, hv, _⟩
      · subst h0
        exact ⟨fun h => by omega, fun v hv => by omega⟩
      · cases hv
        have hl := hLi.out
        subst hl
        exact HD.out.edges OW (fun l hl => by have := H4.out l hl; omega)

end Go.Proofs.Ytkflhmpecfckfaa
