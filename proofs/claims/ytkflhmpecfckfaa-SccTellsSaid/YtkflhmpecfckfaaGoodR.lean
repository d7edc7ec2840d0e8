/- lariatref13.Good: the walk -/
import Derived.Test.YtkflhmpecfckfaaReachR
import Derived.Test.YtkflhmpecfckfaaBoolsArg
open Go Go.RowKit
namespace Go.Proofs.Ytkflhmpecfckfaa
open Tj

/-- from behind i nodes -/
def seenAt (f : Nat → Bool) (i v : Nat) : Bool := f v || decide (v < i)
theorem seenAt_upd (f : Nat → Bool) (i : Nat) : upd (seenAt f i) i true = seenAt f (i + 1) := by
  funext v
  unfold upd seenAt
  by_cases e : v = i
  · simp [e]
  · rw [if_neg e]
    congr 1
    apply decide_eq_decide.2
    omega
theorem seenAt_zero (f : Nat → Bool) : seenAt f 0 = f := by funext v; simp [seenAt]
theorem seenAt_iff {m : Nat} {E : Nat → List Nat} {f : Nat → Bool} (h : ∀ v, f v = true ↔ ∃ j, j < m ∧ Lds E j v) (v : Nat) : seenAt f m v = true ↔ ∃ j, j < m ∧ Rch E j v := by
  unfold seenAt
  rw [Bool.or_eq_true, h, decide_eq_true_eq]
  constructor
  · rintro (⟨j, hj, h1⟩ | h1)
    · exact ⟨j, hj, h1.rch⟩
    · exact ⟨v, h1, .refl _⟩
  · rintro ⟨j, hj, h1⟩
    rcases h1.cases with rfl | h2
    · exact .inr hj
    · exact .inl ⟨j, hj, h2⟩
/-- out behind i nodes -/
structure OutP (p : Nat → Nat) (s : Nat → Bool) (i : Nat) (o : Nat → Bool) : Prop where
  iff : ∀ v, o v = true ↔ ∃ k, k < i ∧ s k = true ∧ p k = v
theorem OutP.start (p : Nat → Nat) (s : Nat → Bool) : OutP p s 0 (fun _ => false) := ⟨fun v => by simp⟩
theorem OutP.yes {p : Nat → Nat} {s o : Nat → Bool} {i : Nat} (h : OutP p s i o) (hs : s i = true) : OutP p s (i + 1) (upd o (p i) true) := ⟨fun v => by
  by_cases e : v = p i
  · subst e
    rw [upd_same]
    exact ⟨fun _ => ⟨i, by omega, hs, rfl⟩, fun _ => rfl⟩
  · rw [upd_ne _ _ e, h.iff]
    constructor
    · rintro ⟨k, h1, h2, h3⟩
      exact ⟨k, by omega, h2, h3⟩
    · rintro ⟨k, h1, h2, h3⟩
      refine ⟨k, ?_, h2, h3⟩
      refine Classical.byContradiction fun h4 => e ?_
      have : k = i := by omega
      rw [← h3, this]⟩
theorem OutP.no {p : Nat → Nat} {s o : Nat → Bool} {i : Nat} (h : OutP p s i o) (hs : s i = false) : OutP p s (i + 1) o := ⟨fun v => by
  rw [h.iff]
  constructor
  · rintro ⟨k, h1, h2, h3⟩
    exact ⟨k, by omega, h2, h3⟩
  · rintro ⟨k, h1, h2, h3⟩
    refine ⟨k, ?_, h2, h3⟩
    refine Classical.byContradiction fun h4 => ?_
    have : k = i := by omega
    rw [this, hs] at h2
    cases h2⟩
/-- the numbers of those that are out -/
def outL (o : Nat → Bool) (i : Nat) : List Int := ((List.range i).filter o).map Int.ofNat
theorem outL_yes {o : Nat → Bool} {i : Nat} (h : o i = true) : outL o (i + 1) = outL o i ++ [(i : Int)] := by simp [outL, List.range_succ, h]
theorem outL_no {o : Nat → Bool} {i : Nat} (h : o i = false) : outL o (i + 1) = outL o i := by simp [outL, List.range_succ, h]
theorem outL_le (o : Nat → Bool) (i : Nat) : (outL o i).length ≤ i := by
  unfold outL
  rw [List.length_map]
  exact Nat.le_trans (List.length_filter_le _ _) (by simp)
theorem outL_asc (o : Nat → Bool) (i : Nat) : (outL o i).Pairwise (· < ·) := by
  unfold outL
  rw [List.pairwise_map]
  exact (List.pairwise_lt_range.filter _).imp (fun h => by simpa using h)
theorem mem_outL {o : Nat → Bool} {i : Nat} {x : Int} : x ∈ outL o i ↔ ∃ v : Nat, x = v ∧ v < i ∧ o v = true := by
  unfold outL
  rw [List.mem_map]
  constructor
  · rintro ⟨v, h1, rfl⟩
    obtain ⟨h2, h3⟩ := List.mem_filter.1 h1
    exact ⟨v, rfl, List.mem_range.1 h2, h3⟩
  · rintro ⟨v, rfl, h1, h2⟩
    exact ⟨v, List.mem_filter.2 ⟨List.mem_range.2 h1, h2⟩, rfl⟩
theorem asc_ext : ∀ {a b : List Int}, a.Pairwise (· < ·) → b.Pairwise (· < ·) → (∀ x, x ∈ a ↔ x ∈ b) → a = b
  | [], [], _, _, _ => rfl
  | [], y :: b, _, _, h => absurd ((h y).2 List.mem_cons_self) (by simp)
  | x :: a, [], _, _, h => absurd ((h x).1 List.mem_cons_self) (by simp)
  | x :: a, y :: b, ha, hb, h => by
    obtain ⟨a1, a2⟩ := List.pairwise_cons.1 ha
    obtain ⟨b1, b2⟩ := List.pairwise_cons.1 hb
    have e : x = y := by
      rcases List.mem_cons.1 ((h x).1 List.mem_cons_self) with e | e
      · exact e
      · rcases List.mem_cons.1 ((h y).2 List.mem_cons_self) with e2 | e2
        · exact e2.symm
        · have := b1 x e
          have := a1 y e2
          omega
    subst e
    congr 1
    refine asc_ext a2 b2 fun z => ⟨fun hz => ?_, fun hz => ?_⟩
    · rcases List.mem_cons.1 ((h z).1 (List.mem_cons_of_mem _ hz)) with e | e
      · have := a1 z hz; omega
      · exact e
    · rcases List.mem_cons.1 ((h z).2 (List.mem_cons_of_mem _ hz)) with e | e
      · have := b1 z hz; omega
      · exact e

set_option maxRecDepth 100000 in
set_option maxHeartbeats 8000000 in
theorem goodR_any (ea : Option Addr) (n ec : Nat) (L : Nat → List Int) (ra : Option Addr) (rc : Nat) (rs : Nat → Bool) (first q : Int) (m : Nat) (w : World) (hR : EdgesAt w ea n L) (hL4 : ∀ v, v < n → (L v).length ≤ 4) (hn : n ≤ 30)
    (hrb : BoolsAt w ra n rs) (h1 : min first (n : Int) = q) (h2 : max 0 q = (m : Int)) (hm : m ≤ n) :
    Calls Try.prog 13 #[.slice ea n ec, .slice ra n rc, .int .i64 first] w fun e w' => ∃ (a : Option Addr) (c : Nat) (p : Nat → Nat) (b f o : Nat → Bool), e = .returned (.slice a (outL o n).length c) ∧ IntsAt w' a (outL o n).length c (outL o n) ∧ OutP p (fun k => f k && rs k && b k) n o ∧
      IsPart n (edgeE n L) p ∧ (∀ i, i < n → (b i = true ↔ Lds (edgeE n L) i i)) ∧ (∀ v, f v = true ↔ ∃ j, j < m ∧ Rch (edgeE n L) j v) ∧ Below w.heap.size w w' := by
  obtain ⟨i0, hi, hz0, hz1, hz2⟩ := info_parts iI
  have mB := fun W => mkB (n := n) (by omega) W
  have hq : ∀ i : Nat, i < m → (i : Int) < q := fun i hi => by omega
  have hq2 : ¬ ((m : Int) < q) := by omega
  have HQ := hid hq
  have HH2 := hid h2
  have hixr := fun k (hk : k < n) => idx_at1 (P := Try.prog) (T := 23) Try.underlying23 (show (Try.prog.info? 4).map (·.size) = some 1 by kernel_rfl) (cap := rc) (fun h0 => hrb.1 h0) hk
  have HL4 := hid hL4
  have HR0 := hid (fun W (h : Below w.heap.size w W) => hR.below h (Nat.le_refl _))
  have HRB := hid (fun W (h : Below w.heap.size w W) => hrb.below h (Nat.le_refl _))
  clear hq h2 hL4 hR hrb
  go_enter Try.func13, Try.ntmps13
  have hnn : ((n : Int) != (n : Int)) = false := by simp
  go_wp2_with fail
  go_loopw [7, 8] (fun fv' v wr => ∃ (i : Nat) (fv : Value), fv = fv' ∧ v = .int .i64 i ∧ i ≤ m ∧ Hid (wr.ownsRow w.heap.size 3 1 fv (List.range i).length (I8 ((List.range i).map Int.ofNat))) ∧ Below w.heap.size w wr) (fun _ v _ => m - (intOf v).toNat)
  case atStart => exact ⟨0, _, rfl, rfl, Nat.zero_le _, hid (World.ownsRow_nil _ _ _ _), Below.refl _ _⟩
  case round =>
    obtain ⟨i, fv, rfl, rfl, him, OT, B⟩ := hrel
    by_cases hii : i < m
    · have hlt := HQ.out i hii
      have OT1 := OT.out
      rw [List.length_range] at OT1
      obtain ⟨KS, hKS⟩ : ∃ x, I8 ((List.range i).map Int.ofNat) = x := ⟨_, rfl⟩
      rw [hKS] at OT1
      have HKS := hid hKS
      have h8 : (i + 1) * 8 ≤ 140737488355328 := by omega
      have hbs : w.heap.size ≤ (wr.alloc (.cells #[.int .i64 (i : Int)] 3)).heap.size := by have := B.size; simp; omega
      clear hKS OT
      go_wp2_with (at_builtin; refine wpList_append_row rfl _ _ 29 rfl w.heap.size 3 i0 (.int .i64 0) Try.underlying29 hi hz0 hz1 (by omega) rfl fv i KS rfl (OT1.alloc _) (some ⟨wr.heap.size, 0, none⟩) 1 1 [.int .i64 (i : Int)] rfl (row_new _ _ _) rfl (fun h => by cases h) (fun u hu => by simp at hu; subst hu; rfl) ?c4 ?c5 ?_)
      case c4 => exact h8
      case c5 => exact hbs
      intro v' w4 o4 B4 _
      have o4 := hid o4
      go_wp2_with fail
      go_roundw
      case measure => simp [intOf] <;> omega
      case rel =>
        refine ⟨i + 1, v', rfl, by go_num, by omega, hid ?_, (B.alloc B.size _).trans B4⟩
        have o4 := o4.out
        rw [← HKS.out] at o4
        rw [List.length_range, List.range_succ, List.map_append, I8, List.map_append]
        simpa [I8] using o4
    · obtain rfl : m = i := by omega
      clear HQ
      have OT1 := OT.out
      rw [List.length_range] at OT1
      obtain ⟨fa, fc, rfl, IF, _⟩ := ints_owns OT1
      have RR := reachR_any ea n ec L fa m fc wr (HR0.out wr B) IF hm HL4.out hn
      have hixf := fun k (hk : k < m) => idx_at1 (P := Try.prog) (T := 29) Try.underlying29 szI (cap := fc) (fun _ => IF.row.nn (by simp; omega)) hk
      have HIF := hid IF
      clear OT OT1 IF
      go_wp2_with fail
      refine RR.mono ?_
      rintro e w2 ⟨gf, f, rfl, hf, HF, hgf, B2⟩
      have HF := hid HF
      have HIF2 := hid (fun W (h2 : Below wr.heap.size wr W) => HIF.out.below h2 (Nat.le_refl _))
      have hgf2 := hid hgf
      have hf := hid hf
      have B2' : Below w.heap.size w w2 := B.trans (B2.mono B.size)
      have hgfw : w.heap.size ≤ gf := by have := B.size; omega
      clear RR
      have HB1 := hid (fun W (h2 : Below wr.heap.size wr W) => B.trans (h2.mono B.size))
      have hgfr := hgf
      go_wp2_with fail
      go_loopw [10] (fun v wx => ∃ (i : Nat), v = .int .i64 i ∧ i ≤ m ∧ Hid (wx.heap[gf]? = some (.cells (tabB n (seenAt f i)).toArray 4 (0, 0))) ∧ Hid (Below wr.heap.size wr wx)) (fun v _ => m - (intOf v).toNat)
      case atStart => exact ⟨0, rfl, Nat.zero_le _, hid (by rw [seenAt_zero]; exact hf.out), hid B2⟩
      case round =>
        clear hf
        obtain ⟨i, rfl, him', HS, HB3⟩ := hrel
        by_cases hii : i < m
        · have hin : i < n := by omega
          have cf : wr.cell? ⟨sB fa, sO fa + i, none⟩ = some (.int .i64 (i : Int)) := by
            have h3 := (HIF2.out wr HB3.out).row.num (i := i) (by simpa using hii)
            simpa [hii] using h3
          have hixi := hixf i hii
          have i1 : (0 : Int) ≤ (i : Int) := by omega
          have i2 : (i : Int) < (n : Int) := by omega
          have i3 : (i : Int) < (m : Int) := by omega
          have cs := blk_cell HS.out (tabB_get hin)
          have fs : wr.frozen? ⟨gf, i, none⟩ = false := blk_free HS.out
          have cs : wr.cell? ⟨gf, i, none⟩ = some (val wr gf i) := has_of cs
          have hs2 := hid ((blk_setCell HS.out (.bool true) (o := i)).trans (congrArg (fun c => some (Obj.cells c 4 (0, 0))) (tabB_set (x := true) hin)))
          go_wp2_with fail
          go_roundw
          case measure => simp [intOf] <;> omega
          case rel => exact ⟨i + 1, by go_num, by omega, hid (by rw [← seenAt_upd]; exact hs2.out), hid (Below.setCell HB3.out (by show _ ≤ gf; exact hgfr) _)⟩
        · obtain rfl : m = i := by omega
          have BW3 := HB1.out wr HB3.out
          have HF2 := hid (seenAt_iff HF.out)
          obtain ⟨sn, hsn⟩ : ∃ x, seenAt f m = x := ⟨_, rfl⟩
          rw [hsn] at HF2 HS
          have PR := partsR_any ea n ec L wr (HR0.out wr BW3) HL4.out hn
          clear hsn hixf HIF HIF2 B B2'
          go_wp2_with fail
          refine PR.mono ?_
          rintro e w4 ⟨gp, p, rfl, hp4, IP, hgp, B4⟩
          have BW4 := BW3.trans (B4.mono BW3.size)
          have hs4 := hid ((B4.block gf (lt_of_blk HS.out)).trans HS.out)
          have BR := backR_any ea n ec L w4 (HR0.out w4 BW4) HL4.out hn
          have IP := hid IP
          have hp4 := hid hp4
          clear PR B4 BW3 HS
          go_wp2_with fail
          refine BR.mono ?_
          rintro e w5 ⟨gb, b, rfl, hb5, HBK, hgb, B5⟩
          have BW5 := BW4.trans (B5.mono BW4.size)
          have hs5 := (B5.block gf (lt_of_blk hs4.out)).trans hs4.out
          have hp5 := (B5.block gp (lt_of_blk hp4.out)).trans hp4.out
          have HBK := hid HBK
          have l1 := lt_of_blk hs5
          have l2 := lt_of_blk hp5
          have l3 := lt_of_blk hb5
          clear BR B5 BW4 hs4 hp4
          have mk := mB w5
          go_wp2_with fail
          obtain ⟨W6, hW6⟩ : ∃ W, w5.alloc (.cells (tabB n fun _ => false).toArray 4) = W := ⟨_, rfl⟩
          rw [hW6]
          have ho6 : W6.heap[w5.heap.size]? = some (.cells (tabB n fun _ => false).toArray 4 (0, 0)) := hW6 ▸ blk_new w5 _
          have hs6 : W6.heap[gf]? = some (.cells (tabB n sn).toArray 4 (0, 0)) := hW6 ▸ blk_old _ hs5
          have hp6 : W6.heap[gp]? = some (.cells (tab n p).toArray 3 (0, 0)) := hW6 ▸ blk_old _ hp5
          have hb6 : W6.heap[gb]? = some (.cells (tabB n b).toArray 4 (0, 0)) := hW6 ▸ blk_old _ hb5
          have BW6 : Below w.heap.size w W6 := hW6 ▸ BW5.alloc BW5.size _
          obtain ⟨go, hgo⟩ : ∃ go, w5.heap.size = go := ⟨_, rfl⟩
          rw [hgo] at ho6 l1 l2 l3 ⊢
          have n1 : ¬ gf = go := by omega
          have n2 : ¬ gp = go := by omega
          have n3 : ¬ gb = go := by omega
          have hgow : w.heap.size ≤ go := by have := BW5.size; omega
          have ho6 := hid ho6
          have hs6 := hid hs6
          have hp6 := hid hp6
          have hb6 := hid hb6
          have BW6 := hid BW6
          clear hW6 hgo hs5 hp5 hb5 BW5 mk mB
          go_loopw [14] (fun v wx => ∃ (i : Nat) (o : Nat → Bool), v = .int .i64 i ∧ i ≤ n ∧ Hid (wx.heap[go]? = some (.cells (tabB n o).toArray 4 (0, 0))) ∧ Hid (OutP p (fun k => sn k && rs k && b k) i o) ∧ Hid (Ext (fun q => q = go) W6 wx)) (fun v _ => n - (intOf v).toNat)
          case atStart => exact ⟨0, _, rfl, Nat.zero_le _, ho6, hid (OutP.start _ _), hid (Ext.refl _ _)⟩
          case round =>
            clear ho6
            obtain ⟨i, o, rfl, hi'', HO, HP, X⟩ := hrel
            have BX : Below w.heap.size w wr := Below.ext BW6.out X.out (fun i h => by omega) BW6.out.size
            have hsx := hid (X.out.blk n1 hs6.out)
            have hpx := hid (X.out.blk n2 hp6.out)
            have hbx := hid (X.out.blk n3 hb6.out)
            by_cases hin : i < n
            · have cs := blk_cell hsx.out (tabB_get hin)
              have cp := blk_cell hpx.out (tab_get hin)
              have cb := blk_cell hbx.out (tabB_get hin)
              have cr := (HRB.out wr BX).cell i hin
              have hixi := hixr i hin
              have i1 : (0 : Int) ≤ (i : Int) := by omega
              have i2 : (i : Int) < (n : Int) := by omega
              have hpn : p i < n := by have := part_le IP.out hin; omega
              have HPI := hid (fun h => HP.out.yes (i := i) h)
              have HPN := hid (fun h => HP.out.no (i := i) h)
              have HRL : Hid (∃ (i' : Nat) (o' : Nat → Bool), i' = i + 1 ∧ o' = o ∧ True) := hid ⟨_, _, rfl, rfl, trivial⟩
              clear HRL
              cases e1 : sn i with
              | false =>
                rw [e1] at cs
                have HN := hid (HPN.out (by simp [e1]))
                clear e1
                go_wp2_with fail
                go_roundw
                case measure => simp [intOf] <;> omega
                case rel => exact ⟨i + 1, o, by go_num, by omega, HO, HN, X⟩
              | true =>
                cases e2 : rs i with
                | false =>
                  rw [e1] at cs
                  rw [e2] at cr
                  have HN := hid (HPN.out (by simp [e2]))
                  clear e1 e2
                  go_wp2_with fail
                  go_roundw
                  case measure => simp [intOf] <;> omega
                  case rel => exact ⟨i + 1, o, by go_num, by omega, HO, HN, X⟩
                | true =>
                  cases e3 : b i with
                  | false =>
                    rw [e1] at cs
                    rw [e2] at cr
                    rw [e3] at cb
                    have HN := hid (HPN.out (by simp [e3]))
                    clear e1 e2 e3
                    go_wp2_with fail
                    go_roundw
                    case measure => simp [intOf] <;> omega
                    case rel => exact ⟨i + 1, o, by go_num, by omega, HO, HN, X⟩
                  | true =>
                    rw [e1] at cs
                    rw [e2] at cr
                    rw [e3] at cb
                    have HN := hid (HPI.out (by simp [e1, e2, e3]))
                    obtain ⟨x, hx⟩ : ∃ x, p i = x := ⟨_, rfl⟩
                    rw [hx] at cp hpn HN
                    have x1 : (0 : Int) ≤ (x : Int) := by omega
                    have x2 : (x : Int) < (n : Int) := by omega
                    have co := blk_cell HO.out (tabB_get hpn)
                    have fo : wr.frozen? ⟨go, x, none⟩ = false := blk_free HO.out
                    have co : wr.cell? ⟨go, x, none⟩ = some (val wr go x) := has_of co
                    have ho2 := hid ((blk_setCell HO.out (.bool true) (o := x)).trans (congrArg (fun c => some (Obj.cells c 4 (0, 0))) (tabB_set (x := true) hpn)))
                    clear e1 e2 e3 hx
                    go_wp2_with fail
                    go_roundw
                    case measure => simp [intOf] <;> omega
                    case rel => exact ⟨i + 1, upd o x true, by go_num, by omega, ho2, HN, hid (X.out.setC rfl)⟩
            · obtain rfl : n = i := by omega
              obtain ⟨W7, rfl⟩ : ∃ W, W = wr := ⟨wr, rfl⟩
              have lo := lt_of_blk HO.out
              clear hsx hpx hbx
              go_wp2_with fail
              go_loopw [15, 16] (fun gv' v wx => ∃ (i : Nat) (gv : Value), gv = gv' ∧ v = .int .i64 i ∧ i ≤ n ∧ Hid (wx.ownsRow W7.heap.size 3 1 gv (outL o i).length (I8 (outL o i))) ∧ Below W7.heap.size W7 wx) (fun _ v _ => n - (intOf v).toNat)
              case atStart => exact ⟨0, _, rfl, rfl, Nat.zero_le _, hid (World.ownsRow_nil _ _ _ _), Below.refl _ _⟩
              case round =>
                obtain ⟨i, gv, rfl, rfl, hi3, OT, B8⟩ := hrel
                by_cases hin : i < n
                · have co := blk_cell ((B8.block go lo).trans HO.out) (tabB_get hin)
                  have i1 : (0 : Int) ≤ (i : Int) := by omega
                  have i2 : (i : Int) < (n : Int) := by omega
                  cases e1 : o i with
                  | false =>
                    rw [e1] at co
                    have HN := hid (outL_no e1)
                    clear e1
                    go_wp2_with fail
                    go_roundw
                    case measure => simp [intOf] <;> omega
                    case rel => exact ⟨i + 1, gv, rfl, by go_num, by omega, hid (by rw [HN.out]; exact OT.out), B8⟩
                  | true =>
                    rw [e1] at co
                    have HN := hid (outL_yes e1)
                    have OT1 := OT.out
                    have hle := outL_le o i
                    obtain ⟨M, hM⟩ : ∃ M, (outL o i).length = M := ⟨_, rfl⟩
                    obtain ⟨KS, hKS⟩ : ∃ x, I8 (outL o i) = x := ⟨_, rfl⟩
                    rw [hM] at OT1 hle
                    rw [hKS] at OT1
                    have HM := hid hM
                    have HKS := hid hKS
                    have h8 : (M + 1) * 8 ≤ 140737488355328 := by omega
                    have hbs : W7.heap.size ≤ (wr.alloc (.cells #[.int .i64 (i : Int)] 3)).heap.size := by have := B8.size; simp; omega
                    clear e1 hM hKS OT
                    go_wp2_with (at_builtin; refine wpList_append_row rfl _ _ 29 rfl W7.heap.size 3 i0 (.int .i64 0) Try.underlying29 hi hz0 hz1 (by omega) rfl gv M KS rfl (OT1.alloc _) (some ⟨wr.heap.size, 0, none⟩) 1 1 [.int .i64 (i : Int)] rfl (row_new _ _ _) rfl (fun h => by cases h) (fun u hu => by simp at hu; subst hu; rfl) ?c6 ?c7 ?_)
                    case c6 => exact h8
                    case c7 => exact hbs
                    intro v' w9 o9 B9 _
                    have o9 := hid o9
                    go_wp2_with fail
                    go_roundw
                    case measure => simp [intOf] <;> omega
                    case rel =>
                      refine ⟨i + 1, v', rfl, by go_num, by omega, hid ?_, (B8.alloc B8.size _).trans B9⟩
                      have o9 := o9.out
                      rw [← HKS.out] at o9
                      rw [HN.out, List.length_append, HM.out]
                      simpa [I8] using o9
                · obtain rfl : n = i := by omega
                  obtain ⟨a9, c9, rfl, I9, _⟩ := ints_owns OT.out
                  have I9 := hid I9
                  clear OT
                  go_wp2_with fail
                  go_ret
                  exact ⟨a9, c9, p, b, sn, o, rfl, I9.out, HP.out, IP.out, HBK.out, HF2.out, BX.trans (B8.mono BX.size)⟩

end Go.Proofs.Ytkflhmpecfckfaa
