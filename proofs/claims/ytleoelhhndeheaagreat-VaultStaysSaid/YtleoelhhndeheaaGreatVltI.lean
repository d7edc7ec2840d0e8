import Derived.Test.YtleoelhhndeheaaGreatVltE
import Derived.Test.YtleoelhhndeheaaGreatLedN
import Derived.Test.YtleoelhhndeheaaGreatLedH
/- package vault: all tracks of the records -/
open Go Go.RowKit
open Go.Maps (Keyed has)
namespace Go.Proofs.YtleoelhhndeheaaGreat

/-- a track of one's own that nobody writes -/
def HldO (w : World) (D : Nat → Prop) (base : Nat) (v : Value) (z : List Int) : Prop := Hld w D v (B8 z) ∧ w.ownsRow base 5 1 v 96 (B8 z)
theorem HldO.step {w w' : World} {D D' : Nat → Prop} {base : Nat} {v : Value} {z : List Int} (h : HldO w D base v z) {F : Nat → Prop} (k : Ext F w w') (hF : ∀ q, F q → D q) (hD : ∀ q, D' q → D q ∨ w.heap.size ≤ q) : HldO w' D' base v z := by
  refine ⟨h.1.step k hF hD, k.owns (fun g hg hf => ?_) h.2⟩
  obtain ⟨a, c, e, -, -, -, -, h6⟩ := h.1.out
  have hl : (B8 z).length = 96 := by have := h.2.1; omega
  subst e
  cases a with
  | none => cases hg
  | some a =>
    have hb : a.block = g := by simpa [Value.ownBlock] using hg
    exact h6 (by omega) (by show D a.block; rw [hb]; exact hF g hf)
theorem HldO.below {w w' : World} {D : Nat → Prop} {base : Nat} {v : Value} {z : List Int} (h : HldO w D base v z) {B : Nat} (k : Below B w w') (hB : w.heap.size ≤ B) : HldO w' D base v z :=
  ⟨h.1.below k hB, Below.owns k hB h.2⟩
theorem HldO.of_owns {w : World} {D : Nat → Prop} {base b : Nat} {v : Value} {z : List Int} (h : w.ownsRow base 5 1 v 96 (B8 z)) (hb : b ≤ base) (hD : ∀ q, base ≤ q → q < w.heap.size → ¬ D q) : HldO w D b v z := ⟨Hld.of_owns h hD, owns_mono h hb⟩
/-- a map of the tracks of some of the numbers -/
structure LaidS (w : World) (base g it : Nat) (R : Rcs) (s : List Int) : Prop where
  out : ∃ Z, IMap w g 4200 Z ∧ ∀ k, (Z k = none ∧ k ∉ s) ∨ ∃ v z, Z k = some v ∧ k ∈ s ∧ laidT R k = some z ∧ HldO w (fun q => q < base ∨ q = g ∨ q = it) base v z
theorem LaidS.ext {w w' : World} {base g it : Nat} {R : Rcs} {s : List Int} (h : LaidS w base g it R s) {F : Nat → Prop} (k : Ext F w w') (hF : ∀ q, F q → q < base) (hg : ¬ F g) : LaidS w' base g it R s := by
  obtain ⟨Z, h1, h2⟩ := h.out
  refine ⟨Z, h1.ext k hg, fun x => ?_⟩
  rcases h2 x with h | ⟨v, z, e1, e2, e3, e4⟩
  · exact .inl h
  · exact .inr ⟨v, z, e1, e2, e3, e4.step k (fun q h => .inl (hF q h)) (fun q hq => .inl hq)⟩
theorem LaidS.below {w w' : World} {base g it : Nat} {R : Rcs} {s : List Int} (h : LaidS w base g it R s) {B : Nat} (k : Below B w w') (hB : w.heap.size ≤ B) : LaidS w' base g it R s := by
  obtain ⟨Z, h1, h2⟩ := h.out
  refine ⟨Z, h1.below k hB, fun x => ?_⟩
  rcases h2 x with h | ⟨v, z, e1, e2, e3, e4⟩
  · exact .inl h
  · exact .inr ⟨v, z, e1, e2, e3, e4.below k hB⟩
theorem LaidS.congr {w : World} {base g it : Nat} {R : Rcs} {s s' : List Int} (h : LaidS w base g it R s) (e : ∀ k, k ∈ s ↔ k ∈ s') : LaidS w base g it R s' := by
  obtain ⟨Z, h1, h2⟩ := h.out
  refine ⟨Z, h1, fun x => ?_⟩
  rcases h2 x with h | ⟨v, z, e1, e2, e3, e4⟩
  · exact .inl ⟨h.1, fun hx => h.2 ((e x).2 hx)⟩
  · exact .inr ⟨v, z, e1, (e x).1 e2, e3, e4⟩
/-- the iterator goes on -/
theorem LaidS.next {w w' : World} {base g it : Nat} {R : Rcs} {s : List Int} (h : LaidS w base g it R s) (k : Ext (· = it) w w') (hg : g ≠ it) : LaidS w' base g it R s := by
  obtain ⟨Z, h1, h2⟩ := h.out
  refine ⟨Z, h1.ext k hg, fun x => ?_⟩
  rcases h2 x with h | ⟨v, z, e1, e2, e3, e4⟩
  · exact .inl h
  · exact .inr ⟨v, z, e1, e2, e3, e4.step k (fun q h => .inr (.inr h)) (fun q hq => .inl hq)⟩
theorem LaidS.iter {w : World} {base g : Nat} {R : Rcs} {s : List Int} (h : LaidS w base g g R s) {it : Nat} (hi : w.heap.size ≤ it) : LaidS w base g it R s := by
  obtain ⟨Z, h1, h2⟩ := h.out
  refine ⟨Z, h1, fun x => ?_⟩
  rcases h2 x with h | ⟨v, z, e1, e2, e3, e4⟩
  · exact .inl h
  · exact .inr ⟨v, z, e1, e2, e3, e4.step (Ext.refl (fun _ => False) _) (fun _ h => h.elim) (fun q hq => by
      rcases hq with h | h | h
      · exact .inl (.inl h)
      · exact .inl (.inr (.inl h))
      · exact .inr (by omega))⟩
/-- one more -/
theorem LaidS.put {w w' : World} {base g it : Nat} {R : Rcs} {s : List Int} {Z : Int → Option Value} {y : Int} {v : Value} {z : List Int}
    (h2 : ∀ k, (Z k = none ∧ k ∉ s) ∨ ∃ v z, Z k = some v ∧ k ∈ s ∧ laidT R k = some z ∧ HldO w (fun q => q < base ∨ q = g ∨ q = it) base v z) (hs : ∀ k ∈ s, 0 ≤ k ∧ k < 4200) (hy : 0 ≤ y ∧ y < 4200) {n : Nat}
    (hm : IMap w' g n (fun k => if k = y then some v else Z k)) (hz : laidT R y = some z) (hv : HldO w (fun q => q < base ∨ q = g ∨ q = it) base v z) (gw : World.grownBy w w' (some g)) : LaidS w' base g it R (y :: s) := by
  have kx : Ext (fun q => q = g) w w' := (Ext.of_grown gw).mono (fun i _ h => by have h : some g = some i := h; simp only [Option.some.injEq] at h; omega)
  have hsv : ∀ v z, HldO w (fun q => q < base ∨ q = g ∨ q = it) base v z → HldO w' (fun q => q < base ∨ q = g ∨ q = it) base v z := fun v z h => h.step kx (fun q h => .inr (.inl h)) (fun q hq => .inl hq)
  refine ⟨_, hm.small (H := 4200) (fun k hk => ?_), fun x => ?_⟩
  · by_cases e : k = y
    · subst e; exact ⟨hy.1, by omega⟩
    · simp only [if_neg e] at hk
      rcases h2 k with h | ⟨v, z, -, e2, -⟩
      · rw [h.1] at hk; cases hk
      · have := hs k e2; omega
  · by_cases e : x = y
    · subst e
      exact .inr ⟨v, z, by simp, by simp, hz, hsv _ _ hv⟩
    · rcases h2 x with h | ⟨v, z, e1, e2, e3, e4⟩
      · exact .inl ⟨by simp [e, h.1], by simp [e, h.2]⟩
      · exact .inr ⟨v, z, by simp [e, e1], by simp [e2], e3, hsv _ _ e4⟩

/-- all of them -/
structure LaidAt (w : World) (base g : Nat) (T : Int → Option (List Int)) : Prop where
  out : ∃ Z, IMap w g 4200 Z ∧ ∀ k, (Z k = none ∧ T k = none) ∨ ∃ v z, Z k = some v ∧ T k = some z ∧ HldO w (fun q => q < base ∨ q = g) base v z

theorem part_row {w : World} {a : Option Addr} {b : List Int} (h : Row w a (B8 b)) (k n : Nat) : Row w (a.map (fun x => x.add k)) (B8 ((b.drop k).take n)) := by
  rcases Nat.lt_or_ge k b.length with hk | hk
  · have ha := h.nn (by rw [B8_length]; omega)
    rw [ha] at h ⊢
    have := (Row.drop h k).take n
    simp only [Option.map_some, add_eq]
    rw [B8, List.map_take, List.map_drop]
    exact this
  · rw [List.drop_eq_nil_of_le hk]
    simp only [List.take_nil, B8, List.map_nil]
    exact Row.nil _ _

set_option maxRecDepth 100000 in
set_option maxHeartbeats 8000000 in
theorem laidOut_any {w : World} {D : Nat → Prop} {db tb : Nat} {R : Rcs} {H : Nat} (h : RecP w D db tb R) (ok : RcsOk R H) (hH : H ≤ 4095) :
    Calls Tryz.prog 67 #[.agg #[.map (some db), .map (some tb)]] w fun e w' => ∃ g, e = .returned (.map (some g)) ∧ w.heap.size ≤ g ∧ LaidAt w' w.heap.size g (laidT R) ∧ Below w.heap.size w w' := by
  have HRP := hid h
  obtain ⟨V, U, hv, hu, hx⟩ := h.out
  have HX := hid hx
  have OK := hid ok
  have HU := hid hu
  have LT := hid hu.lt
  have hmm := @run_makeMap Tryz.prog
  obtain ⟨x0, hx0⟩ : ∃ x0, w.heap.size = x0 := ⟨_, rfl⟩
  obtain ⟨W1, hW1⟩ : ∃ W1, ((w.alloc (.cells #[.map (some db), .map (some tb)] 68)).alloc (.map #[] 0)) = W1 := ⟨_, rfl⟩
  have BW1 : Below w.heap.size w W1 := by rw [← hW1]; exact ((Below.refl _ w).alloc (Nat.le_refl _) _).alloc (by simp) _
  have sW1 : W1.heap.size = x0 + 2 := by rw [← hW1, ← hx0]; simp
  have y0 : W1.cell? ⟨x0, 0, none⟩ = some (.map (some db)) := by rw [← hW1, ← hx0]; exact cell_alloc _ (blk_cell (blk_new _ _) rfl)
  have y1 : W1.cell? ⟨x0, 1, none⟩ = some (.map (some tb)) := by rw [← hW1, ← hx0]; exact cell_alloc _ (blk_cell (blk_new _ _) rfl)
  have m0 : IMap W1 (x0 + 1) 0 (fun _ => none) := by
    have := IMap.made (w.alloc (.cells #[.map (some db), .map (some tb)] 68))
    rw [hW1] at this
    simpa [hx0] using this
  have LI := listed_any (h.below BW1 (Nat.le_refl _)) ok (by omega)
  have HX0 := hid hx0
  have HBW := hid BW1
  have SW1 := hid sW1
  have HM0 := hid m0
  clear hv hu hx h ok BW1 sW1 m0
  go_enter Tryz.func67, Tryz.ntmps67
  go_wp2_with fail
  refine LI.mono ?_
  rintro e w1 ⟨v1, rfl, o1, B1⟩
  clear LI
  have HO1 := hid o1
  have M1 := hid (HM0.out.below B1 (Nat.le_refl _))
  have z1 : w1.cell? ⟨x0, 1, none⟩ = some (.map (some tb)) := Below.cellAt B1 (by have := SW1.out; omega) y1
  have z0 : w1.cell? ⟨x0, 0, none⟩ = some (.map (some db)) := Below.cellAt B1 (by have := SW1.out; omega) y0
  have HB1 := hid B1
  clear o1 B1
  go_wp2_with (first | (refine wpList_insert_im rfl _ rfl _ _ _ 65 rfl 27 Tryz.underlying65 (x0 + 1) 0 (fun _ => none) rfl M1.out (by unfold maxLen; omega) 0 v1 rfl rfl (by omega) ?_) | fail)
  intro w2 M2 G2
  have X2 : Ext (fun q => q = x0 + 1) w1 w2 := (Ext.of_grown G2).mono (fun i _ h => by have h : some (x0 + 1) = some i := h; simp only [Option.some.injEq] at h; omega)
  have H1 : HldO w1 (fun q => q < x0 ∨ q = x0 + 1 ∨ q = x0 + 1) x0 v1 (listT R) := HldO.of_owns HO1.out (by have := SW1.out; omega) (fun q h1 h2 h => by have := SW1.out; omega)
  have L2 : LaidS w2 x0 (x0 + 1) (x0 + 1) R [0] := LaidS.put (s := []) (Z := fun _ => none) (fun k => .inl ⟨rfl, by simp⟩) (fun k hk => by cases hk) (by omega) M2 (by unfold laidT; rw [if_pos rfl]) H1 G2
  have c1 : w2.cell? ⟨x0, 1, none⟩ = some (.map (some tb)) := X2.cell (by omega) z1
  have c0 : w2.cell? ⟨x0, 0, none⟩ = some (.map (some db)) := X2.cell (by omega) z0
  have B2 : Below w.heap.size w w2 := Below.ext (HBW.out.trans (HB1.out.mono (by have := SW1.out; omega))) X2 (fun i h => by omega) (by have := HB1.out.size; have := SW1.out; omega)
  obtain ⟨r, hr⟩ : ∃ r, w2.heap.size = r := ⟨_, rfl⟩
  have hr2 : x0 + 2 ≤ r := by have := X2.size; have := HB1.out.size; have := SW1.out; omega
  have HL2 := hid L2
  have HR := hid hr2
  have HRR := hid hr
  have HC0 := hid c0
  have HB2 := hid B2
  clear M2 G2 X2 H1 z0 z1 M1 HM0 HO1 y0 y1 hW1 L2 c0
  go_wp2_with (first | (at_range; refine wpList_range_im rfl _ rfl _ _ rfl 33 Tryz.underlying66 tb 41 U rfl (HU.out.below B2 (Nat.le_refl _)) ?_) | fail)
  intro w0 cnt RG B0 hs0
  have X0 : Ext (fun q => q = x0 + 1) w2 w0 := Ext.of_below (by rw [hr]; exact B0) _
  have L0 := hid ((HL2.out.iter (it := r) (Nat.le_of_eq hr)).below B0 (Nat.le_of_eq hr))
  have C0 := hid (show cameL R (fun x => (U x).isSome) [0] from fun k => by
    constructor
    · intro h; exact .inl (by simpa using h)
    · rintro (h | ⟨x, h1, h2⟩)
      · simp [h]
      · exfalso
        rcases HX.out x with ⟨e, -, -⟩ | ⟨b, l, v, u, -, -, e, -⟩
        · rw [trks_none e] at h2; cases h2
        · simp [e] at h1)
  have HX0' := hid X0
  clear B0 hs0 X0 B2 hr
  go_wp2_with fail
  go_loopw [4] (fun _ wr => ∃ (cnt : Nat) (left : Int → Bool) (s : List Int), IRng wr tb r 41 U left cnt ∧ Hid (LaidS wr x0 (x0 + 1) r R s) ∧ Hid (cameL R left s) ∧ Hid (Ext (fun q => q = x0 + 1) w2 wr)) (fun _ wr => wr.rangeLeft tb r)
  case atStart => exact ⟨_, _, _, RG, L0, C0, HX0'⟩
  case round =>
    obtain ⟨wo, rfl⟩ : ∃ w', w' = wr := ⟨_, rfl⟩
    obtain ⟨cnt2, left, s, RGk, LK, CK, XK⟩ := hrel
    have BO := hid (show Below w.heap.size w wo from Below.ext HB2.out XK.out (fun i h => by have := HX0.out; omega) HB2.out.size)
    go_wp2_with (first | (at_next; refine wpList_next_im rfl _ rfl _ rfl tb r 41 U left cnt2 rfl RGk ?_ ?_) | fail)
    · intro hl
      have HL := hid hl
      clear hl
      go_wp2_with fail
      go_ret
      obtain ⟨Z, h1, h2⟩ := LK.out.out
      refine ⟨x0 + 1, rfl, by omega, ⟨Z, h1, fun k => ?_⟩, BO.out⟩
      rcases h2 k with ⟨e1, e2⟩ | ⟨v, z, e1, -, e3, e4⟩
      · refine .inl ⟨e1, laidT_none (fun h => e2 ((CK.out k).2 (.inl h))) (fun i hi => e2 ((CK.out k).2 (.inr ⟨i, HL.out i, hi⟩)))⟩
      · have e5 := e4.step (D' := fun q => q < x0 ∨ q = x0 + 1) (Ext.refl (fun _ => False) _) (fun _ h => h.elim) (fun q hq => .inl (by omega))
        exact .inr ⟨v, z, e1, e3, by rw [hx0]; exact e5⟩
    · intro x v w3 cnt3 hT hleft hx1 hx2 RG3 hlt X3 hen
      have L3 := hid (show w3.rangeLeft tb r < wo.rangeLeft tb r by rw [RG3.left_eq, RGk.left_eq]; exact hlt)
      have XK3 : Ext (fun q => q = x0 + 1) w2 w3 := XK.out.trans X3 (fun i hi h => by have := HRR.out; omega)
      have B3 : Below w.heap.size w w3 := Below.ext HB2.out XK3 (fun i h => by have := HX0.out; omega) HB2.out.size
      obtain ⟨b, l, u, e1, e2, e3⟩ : ∃ b l u, R x = some (b, l) ∧ v = u ∧ Hld w D u (I8 l) := by
        rcases HX.out x with ⟨-, -, e⟩ | ⟨b, l, _, u, e1, -, e3, -, e5⟩
        · rw [e] at hT; cases hT
        · rw [e3] at hT; cases hT; exact ⟨b, l, _, e1, rfl, e5⟩
      subst e2
      obtain ⟨a, c, e4, hrow, -, -, -, -⟩ := e3.out
      obtain ⟨m, hm⟩ : ∃ m, l.length = m := ⟨_, rfl⟩
      rw [I8_length, hm] at e4
      subst e4
      have hml : m ≤ 4096 := by
        have h1 := OK.out.nd x _ e1
        have h2 := nodup_lt_int H l h1 (fun k hk => by have := OK.out.tr x _ e1 k hk; omega)
        omega
      obtain ⟨vb, lkb, -, hb⟩ := HRP.out.lookD x ⟨hx1, hx2⟩
      rw [bytes_of e1] at hb
      obtain ⟨ba, bc, e5, brow, blc, blm, bnn, -⟩ := hb.out
      obtain ⟨n, hn⟩ : ∃ n, b.length = n := ⟨_, rfl⟩
      rw [B8_length, hn] at e5 blc bnn
      subst e5
      have hbl := OK.out.b x _ e1
      have hll := OK.out.len x _ e1
      simp only [hn, hm] at hbl hll
      have hn6 := hbl.1
      have TR := hid (fun k (hk : k ∈ l) => OK.out.tr x _ e1 k hk)
      have hxi := OK.out.id x _ e1
      have ROW := hid hrow
      have BROW := hid brow
      have BNN := hid bnn
      have HBY := hid hbl.2
      have HMM := hid hm
      have HNN := hid hn
      have HLL := hid hll
      have E1 := hid e1
      have LS3 := LK.out.next X3 (by have := HR.out; omega)
      have LS3 := hid LS3
      have RLT := hid RG3.lt
      have HRG := hid RG3
      have SB := hid (show ∀ k ∈ s, 0 ≤ k ∧ k < 4096 from fun k hk => by
        rcases (CK.out k).1 hk with h | ⟨y, -, hy⟩
        · omega
        · have := trks_tr OK.out hy; omega)
      have HX3 := hid XK3
      have HL3 := hid hleft
      have B3H := hid B3
      have lkb3 := lkb w3 B3
      have d0 : w3.cell? ⟨x0, 0, none⟩ = some (.map (some db)) := XK3.cell (by omega) HC0.out
      have hix := fun k (hk : k < m) => idx_at1 (P := Tryz.prog) (T := 33) Tryz.underlying33 szI (cap := c) (a := a) (fun _ => hrow.nn (by rw [I8_length, hm]; omega)) hk
      clear hT hleft hlt e1 e3 hm hrow X3 RG3 XK3 B3 RGk hn hbl hll bnn hb lkb brow
      go_wp2_with fail
      go_loopw [29] (fun v wr => ∃ j : Nat, v = .int .i64 j ∧ j ≤ m ∧ Hid (LaidS wr x0 (x0 + 1) r R ((l.take j).reverse ++ s)) ∧ Hid (Ext (fun q => q = x0 + 1) w3 wr)) (fun v _ => m - (intOf v).toNat)
      case atStart => exact ⟨0, rfl, Nat.zero_le _, by simpa using LS3, hid (Ext.refl _ _)⟩
      case round =>
        obtain ⟨j, rfl, hj, LJ, XJ⟩ := hrel
        by_cases hjm : j < m
        · have hixj := hix j hjm
          have hl : j < l.length := by rw [HMM.out]; exact hjm
          obtain ⟨y, hy⟩ : ∃ y, l[j]? = some y := ⟨_, List.getElem?_eq_getElem hl⟩
          have BJ : Below w.heap.size w wr := Below.ext B3H.out XJ.out (fun i h => by have := HX0.out; omega) B3H.out.size
          have BJS := hid (show x0 ≤ wr.heap.size by have := BJ.size; have := HX0.out; omega)
          have cy : wr.cell? ⟨sB a, sO a + j, none⟩ = some (.int .i64 y) := by
            have := (ROW.out.below BJ (Nat.le_refl _)).cell j (.int .i64 y) (by rw [I8, List.getElem?_map, hy]; rfl)
            exact this
          have hyb := TR.out y (List.mem_of_getElem? hy)
          have HT := hid (show (l.take (j + 1)).reverse ++ s = y :: ((l.take j).reverse ++ s) by rw [List.take_add_one, hy]; simp)
          have HY := hid hy
          clear hy
          obtain ⟨h, hh, hh2⟩ : ∃ h : Nat, min (n : Int) (((j : Int) + 1) * 80) = (h : Int) ∧ h = min n ((j + 1) * 80) := ⟨min n ((j + 1) * 80), by omega, rfl⟩
          have hjn : j * 80 ≤ h := by
            have := HLL.out
            unfold takes at this
            omega
          obtain ⟨p, hp⟩ : ∃ p, h - j * 80 = p := ⟨_, rfl⟩
          have hp80 : p ≤ 80 := by omega
          have HPL := hid (show ((b.drop (j * 80)).take 80).length = p by rw [List.length_take, List.length_drop, HNN.out]; omega)
          have PROW := hid (part_row (BROW.out.below BJ (Nat.le_refl _)) (j * 80) 80)
          have hx256 : x % 256 = x := by omega
          have hp256 : (p : Int) % 256 = p := by omega
          have d0 : wr.cell? ⟨x0, 0, none⟩ = some (.map (some db)) := XJ.out.cell (by omega) d0
          by_cases hbc : bc = j * 80
          · have hp0 : p = 0 := by omega
            have PROW := hid (show Row wr ba (B8 ((b.drop (j * 80)).take 80)) by
              rw [List.eq_nil_of_length_eq_zero (HPL.out.trans hp0)]
              exact Row.nil _ _)
            have PNN := hid (show ba = none → (b.drop (j * 80)).take 80 = [] from fun _ => List.eq_nil_of_length_eq_zero (HPL.out.trans hp0))
            subst hbc
            clear hh2 hp0
            by_cases hj1 : j + 1 < m
            · have hixj1 : ∀ W, (Instr.indexAt 33 (.slice a m c) (.int .i64 ((j : Int) + 1))).run Tryz.prog W = .ok (.pointer (some ⟨sB a, sO a + (j + 1), none⟩)) W := hix (j + 1) hj1
              have hl1 : j + 1 < l.length := by rw [HMM.out]; exact hj1
              obtain ⟨y1, hy1⟩ : ∃ y1, l[j + 1]? = some y1 := ⟨_, List.getElem?_eq_getElem hl1⟩
              have cy1 : wr.cell? ⟨sB a, sO a + (j + 1), none⟩ = some (.int .i64 y1) := by
                have := (ROW.out.below BJ (Nat.le_refl _)).cell (j + 1) (.int .i64 y1) (by rw [I8, List.getElem?_map, hy1]; rfl)
                exact this
              have hyb1 := TR.out y1 (List.mem_of_getElem? hy1)
              have HNX := hid (show (l[j + 1]?).getD 4095 = y1 by rw [hy1]; rfl)
              have hj1i : decide ((j : Int) + 1 < m) = true := decide_eq_true (by omega)
              clear hy1
              go_wp2_with fail
              refine (vlaid_any y1 _ (by omega)).mono ?_
              rintro e wl ⟨rfl, rfl⟩
              go_wp2_with fail
              have CC := concat_any (some ⟨wr.heap.size + 1 + 1, 0, none⟩) 3 3 [⟨some ⟨wr.heap.size, 0, none⟩, 2, lay2 y1⟩, ⟨some ⟨wr.heap.size + 1, 0, none⟩, 2, [x, (p : Int)]⟩, ⟨ba, 0, (b.drop (j * 80)).take 80⟩] (((wr.alloc (.cells (B8 (lay2 y1)).toArray 5)).alloc (.cells #[.int .u8 x, .int .u8 (p : Int)] 5)).alloc (.cells #[.slice (some ⟨wr.heap.size, 0, none⟩) 2 2, .slice (some ⟨wr.heap.size + 1, 0, none⟩) 2 2, .slice (ba) p (0)] 27)) (by
                  have e : [(⟨some ⟨wr.heap.size, 0, none⟩, 2, lay2 y1⟩ : Pt), ⟨some ⟨wr.heap.size + 1, 0, none⟩, 2, [x, (p : Int)]⟩, ⟨ba, 0, (b.drop (j * 80)).take 80⟩].map Pt.val = [.slice (some ⟨wr.heap.size, 0, none⟩) 2 2, .slice (some ⟨wr.heap.size + 1, 0, none⟩) 2 2, .slice (ba) p (0)] := by
                    simp only [List.map_cons, List.map_nil, Pt.val, HPL.out]
                    rfl
                  rw [e]
                  exact row_at _ _ _ (by simp)) rfl (by decide) (by
                  intro q hq
                  rcases List.mem_cons.1 hq with rfl | hq
                  · exact pt_some (((row_at wr _ 5 rfl).alloc _).alloc _)
                  rcases List.mem_cons.1 hq with rfl | hq
                  · exact pt_some ((row_at (wr.alloc _) _ 5 (by simp)).alloc _)
                  obtain rfl := List.mem_singleton.1 hq
                  exact ⟨(((PROW.out).alloc _).alloc _).alloc _, fun e => ⟨PNN.out e, rfl⟩⟩) (by
                  have := HPL.out
                  simp only [flat, List.flatMap_cons, List.flatMap_nil, List.length_append, List.length_nil, lay2, List.length_cons]
                  omega)
              have FL := hid (show flat [(⟨some ⟨wr.heap.size, 0, none⟩, 2, lay2 y1⟩ : Pt), ⟨some ⟨wr.heap.size + 1, 0, none⟩, 2, [x, (p : Int)]⟩, ⟨ba, 0, (b.drop (j * 80)).take 80⟩] = recB x b l j by
                unfold flat recB
                rw [HNX.out]
                simp only [List.flatMap_cons, List.flatMap_nil, List.append_nil, Nat.mul_comm 80 j, HPL.out]
                rw [List.append_assoc])
              rw [FL.out] at CC
              refine CC.mono ?_
              rintro e w6 ⟨v6, rfl, o6, B6⟩
              clear CC
              obtain ⟨a6, c6, rfl, hl6, -, -, r6, -, hn6'⟩ := row_of_owns o6
              have RL := hid (show (recB x b l j).length = 4 + p by rw [recB_length, Nat.mul_comm, HPL.out])
              have CL := vclosed_any a6 (recB x b l j).length c6 (recB x b l j) w6 r6 rfl hn6' (by rw [RL.out]; omega) (by
                unfold recB
                refine ((lay2_bytes _).append ?_).append (((HBY.out).drop _).take _)
                intro q hq
                have := partLen b j
                simp only [List.mem_cons, List.mem_nil_iff, or_false] at hq
                rcases hq with rfl | rfl <;> omega)
              have BA : Below wr.heap.size wr w6 := ((((Below.refl _ wr).alloc (Nat.le_refl _) _).alloc (by simp) _).alloc (by simp; omega) _).trans (B6.mono (by simp; omega))
              have BAH := hid BA
              clear hl6 r6 hn6' o6 B6 BA
              go_wp2_with fail
              refine CL.mono ?_
              rintro e w7 ⟨v7, rfl, o7, B7⟩
              clear CL
              have BB := hid (BAH.out.trans (B7.mono BAH.out.size))
              have HV7 := hid (show HldO w7 (fun q => q < x0 ∨ q = x0 + 1 ∨ q = r) x0 v7 (closed (recB x b l j)) from HldO.of_owns o7 (by have := BAH.out.size; have := BJS.out; omega) (fun q h1 h2 h => by
                have := BAH.out.size
                have := XJ.out.size
                have := HX3.out.size
                have := HRR.out
                have := HR.out
                have := RLT.out
                omega))
              obtain ⟨Z, hz1, hz2⟩ := (LJ.out.below BB.out (Nat.le_refl _)).out
              have HZ2 := hid hz2
              clear o7 B7 hz2
              go_wp2_with (first | (at_mapUpdate; refine wpList_mapUpdate_im rfl _ rfl _ _ _ 65 rfl 27 Tryz.underlying65 (x0 + 1) 4200 Z rfl hz1 (by unfold maxLen; omega) y v7 rfl rfl (by omega) ?_) | fail)
              intro w8 M8 G8
              have hlt8 : j < l.length := by rw [HMM.out]; exact hjm
              have L8 := hid (LaidS.put HZ2.out (fun k hk => by
                  rcases List.mem_append.1 hk with h | h
                  · have := TR.out k (List.mem_of_mem_take (List.mem_reverse.1 h)); omega
                  · have := SB.out k h; omega) (by omega) M8 (by
                  have h5 := laidT_at OK.out E1.out (j := j) hlt8
                  have h6 : l[j] = y := by have := HY.out; rw [List.getElem?_eq_getElem hlt8] at this; simpa using this
                  rw [← h6]
                  exact h5) HV7.out G8)
              have X8 : Ext (fun q => q = x0 + 1) w3 w8 := (XJ.out.trans (Ext.of_below BB.out _) (fun i _ h => h)).trans (Ext.of_grown G8) (fun i _ h => by have h : some (x0 + 1) = some i := h; simp only [Option.some.injEq] at h; omega)
              clear M8 G8
              go_wp2_with fail
              go_roundw
              case measure => simp [intOf]; omega
              case rel => exact ⟨j + 1, by go_num, by omega, by rw [HT.out]; exact L8, hid X8⟩
            · have HNX := hid (show (l[j + 1]?).getD 4095 = 4095 by rw [List.getElem?_eq_none (by rw [HMM.out]; omega)]; rfl)
              go_wp2_with fail
              refine (vlaid_any 4095 _ (by omega)).mono ?_
              rintro e wl ⟨rfl, rfl⟩
              go_wp2_with fail
              have CC := concat_any (some ⟨wr.heap.size + 1 + 1, 0, none⟩) 3 3 [⟨some ⟨wr.heap.size, 0, none⟩, 2, lay2 4095⟩, ⟨some ⟨wr.heap.size + 1, 0, none⟩, 2, [x, (p : Int)]⟩, ⟨ba, 0, (b.drop (j * 80)).take 80⟩] (((wr.alloc (.cells (B8 (lay2 4095)).toArray 5)).alloc (.cells #[.int .u8 x, .int .u8 (p : Int)] 5)).alloc (.cells #[.slice (some ⟨wr.heap.size, 0, none⟩) 2 2, .slice (some ⟨wr.heap.size + 1, 0, none⟩) 2 2, .slice (ba) p (0)] 27)) (by
                  have e : [(⟨some ⟨wr.heap.size, 0, none⟩, 2, lay2 4095⟩ : Pt), ⟨some ⟨wr.heap.size + 1, 0, none⟩, 2, [x, (p : Int)]⟩, ⟨ba, 0, (b.drop (j * 80)).take 80⟩].map Pt.val = [.slice (some ⟨wr.heap.size, 0, none⟩) 2 2, .slice (some ⟨wr.heap.size + 1, 0, none⟩) 2 2, .slice (ba) p (0)] := by
                    simp only [List.map_cons, List.map_nil, Pt.val, HPL.out]
                    rfl
                  rw [e]
                  exact row_at _ _ _ (by simp)) rfl (by decide) (by
                  intro q hq
                  rcases List.mem_cons.1 hq with rfl | hq
                  · exact pt_some (((row_at wr _ 5 rfl).alloc _).alloc _)
                  rcases List.mem_cons.1 hq with rfl | hq
                  · exact pt_some ((row_at (wr.alloc _) _ 5 (by simp)).alloc _)
                  obtain rfl := List.mem_singleton.1 hq
                  exact ⟨(((PROW.out).alloc _).alloc _).alloc _, fun e => ⟨PNN.out e, rfl⟩⟩) (by
                  have := HPL.out
                  simp only [flat, List.flatMap_cons, List.flatMap_nil, List.length_append, List.length_nil, lay2, List.length_cons]
                  omega)
              have FL := hid (show flat [(⟨some ⟨wr.heap.size, 0, none⟩, 2, lay2 4095⟩ : Pt), ⟨some ⟨wr.heap.size + 1, 0, none⟩, 2, [x, (p : Int)]⟩, ⟨ba, 0, (b.drop (j * 80)).take 80⟩] = recB x b l j by
                unfold flat recB
                rw [HNX.out]
                simp only [List.flatMap_cons, List.flatMap_nil, List.append_nil, Nat.mul_comm 80 j, HPL.out]
                rw [List.append_assoc])
              rw [FL.out] at CC
              refine CC.mono ?_
              rintro e w6 ⟨v6, rfl, o6, B6⟩
              clear CC
              obtain ⟨a6, c6, rfl, hl6, -, -, r6, -, hn6'⟩ := row_of_owns o6
              have RL := hid (show (recB x b l j).length = 4 + p by rw [recB_length, Nat.mul_comm, HPL.out])
              have CL := vclosed_any a6 (recB x b l j).length c6 (recB x b l j) w6 r6 rfl hn6' (by rw [RL.out]; omega) (by
                unfold recB
                refine ((lay2_bytes _).append ?_).append (((HBY.out).drop _).take _)
                intro q hq
                have := partLen b j
                simp only [List.mem_cons, List.mem_nil_iff, or_false] at hq
                rcases hq with rfl | rfl <;> omega)
              have BA : Below wr.heap.size wr w6 := ((((Below.refl _ wr).alloc (Nat.le_refl _) _).alloc (by simp) _).alloc (by simp; omega) _).trans (B6.mono (by simp; omega))
              have BAH := hid BA
              clear hl6 r6 hn6' o6 B6 BA
              go_wp2_with fail
              refine CL.mono ?_
              rintro e w7 ⟨v7, rfl, o7, B7⟩
              clear CL
              have BB := hid (BAH.out.trans (B7.mono BAH.out.size))
              have HV7 := hid (show HldO w7 (fun q => q < x0 ∨ q = x0 + 1 ∨ q = r) x0 v7 (closed (recB x b l j)) from HldO.of_owns o7 (by have := BAH.out.size; have := BJS.out; omega) (fun q h1 h2 h => by
                have := BAH.out.size
                have := XJ.out.size
                have := HX3.out.size
                have := HRR.out
                have := HR.out
                have := RLT.out
                omega))
              obtain ⟨Z, hz1, hz2⟩ := (LJ.out.below BB.out (Nat.le_refl _)).out
              have HZ2 := hid hz2
              clear o7 B7 hz2
              go_wp2_with (first | (at_mapUpdate; refine wpList_mapUpdate_im rfl _ rfl _ _ _ 65 rfl 27 Tryz.underlying65 (x0 + 1) 4200 Z rfl hz1 (by unfold maxLen; omega) y v7 rfl rfl (by omega) ?_) | fail)
              intro w8 M8 G8
              have hlt8 : j < l.length := by rw [HMM.out]; exact hjm
              have L8 := hid (LaidS.put HZ2.out (fun k hk => by
                  rcases List.mem_append.1 hk with h | h
                  · have := TR.out k (List.mem_of_mem_take (List.mem_reverse.1 h)); omega
                  · have := SB.out k h; omega) (by omega) M8 (by
                  have h5 := laidT_at OK.out E1.out (j := j) hlt8
                  have h6 : l[j] = y := by have := HY.out; rw [List.getElem?_eq_getElem hlt8] at this; simpa using this
                  rw [← h6]
                  exact h5) HV7.out G8)
              have X8 : Ext (fun q => q = x0 + 1) w3 w8 := (XJ.out.trans (Ext.of_below BB.out _) (fun i _ h => h)).trans (Ext.of_grown G8) (fun i _ h => by have h : some (x0 + 1) = some i := h; simp only [Option.some.injEq] at h; omega)
              clear M8 G8
              go_wp2_with fail
              go_roundw
              case measure => simp [intOf]; omega
              case rel => exact ⟨j + 1, by go_num, by omega, by rw [HT.out]; exact L8, hid X8⟩
          · have hbc2 : ¬ (bc - j * 80 = 0) := by omega
            have PNN := hid (show ba.map (fun x => x.add (j * 80)) = none → (b.drop (j * 80)).take 80 = [] ∧ bc - j * 80 = 0 from fun e => by
              have hb := BNN.out (by cases ba with | none => rfl | some _ => cases e)
              omega)
            clear hh2
            by_cases hj1 : j + 1 < m
            · have hixj1 : ∀ W, (Instr.indexAt 33 (.slice a m c) (.int .i64 ((j : Int) + 1))).run Tryz.prog W = .ok (.pointer (some ⟨sB a, sO a + (j + 1), none⟩)) W := hix (j + 1) hj1
              have hl1 : j + 1 < l.length := by rw [HMM.out]; exact hj1
              obtain ⟨y1, hy1⟩ : ∃ y1, l[j + 1]? = some y1 := ⟨_, List.getElem?_eq_getElem hl1⟩
              have cy1 : wr.cell? ⟨sB a, sO a + (j + 1), none⟩ = some (.int .i64 y1) := by
                have := (ROW.out.below BJ (Nat.le_refl _)).cell (j + 1) (.int .i64 y1) (by rw [I8, List.getElem?_map, hy1]; rfl)
                exact this
              have hyb1 := TR.out y1 (List.mem_of_getElem? hy1)
              have HNX := hid (show (l[j + 1]?).getD 4095 = y1 by rw [hy1]; rfl)
              have hj1i : decide ((j : Int) + 1 < m) = true := decide_eq_true (by omega)
              clear hy1
              go_wp2_with fail
              refine (vlaid_any y1 _ (by omega)).mono ?_
              rintro e wl ⟨rfl, rfl⟩
              go_wp2_with fail
              have CC := concat_any (some ⟨wr.heap.size + 1 + 1, 0, none⟩) 3 3 [⟨some ⟨wr.heap.size, 0, none⟩, 2, lay2 y1⟩, ⟨some ⟨wr.heap.size + 1, 0, none⟩, 2, [x, (p : Int)]⟩, ⟨ba.map (fun x => x.add (j * 80)), bc - j * 80, (b.drop (j * 80)).take 80⟩] (((wr.alloc (.cells (B8 (lay2 y1)).toArray 5)).alloc (.cells #[.int .u8 x, .int .u8 (p : Int)] 5)).alloc (.cells #[.slice (some ⟨wr.heap.size, 0, none⟩) 2 2, .slice (some ⟨wr.heap.size + 1, 0, none⟩) 2 2, .slice (ba.map (fun x => x.add (j * 80))) p (bc - j * 80)] 27)) (by
                  have e : [(⟨some ⟨wr.heap.size, 0, none⟩, 2, lay2 y1⟩ : Pt), ⟨some ⟨wr.heap.size + 1, 0, none⟩, 2, [x, (p : Int)]⟩, ⟨ba.map (fun x => x.add (j * 80)), bc - j * 80, (b.drop (j * 80)).take 80⟩].map Pt.val = [.slice (some ⟨wr.heap.size, 0, none⟩) 2 2, .slice (some ⟨wr.heap.size + 1, 0, none⟩) 2 2, .slice (ba.map (fun x => x.add (j * 80))) p (bc - j * 80)] := by
                    simp only [List.map_cons, List.map_nil, Pt.val, HPL.out]
                    rfl
                  rw [e]
                  exact row_at _ _ _ (by simp)) rfl (by decide) (by
                  intro q hq
                  rcases List.mem_cons.1 hq with rfl | hq
                  · exact pt_some (((row_at wr _ 5 rfl).alloc _).alloc _)
                  rcases List.mem_cons.1 hq with rfl | hq
                  · exact pt_some ((row_at (wr.alloc _) _ 5 (by simp)).alloc _)
                  obtain rfl := List.mem_singleton.1 hq
                  exact ⟨(((PROW.out).alloc _).alloc _).alloc _, PNN.out⟩) (by
                  have := HPL.out
                  simp only [flat, List.flatMap_cons, List.flatMap_nil, List.length_append, List.length_nil, lay2, List.length_cons]
                  omega)
              have FL := hid (show flat [(⟨some ⟨wr.heap.size, 0, none⟩, 2, lay2 y1⟩ : Pt), ⟨some ⟨wr.heap.size + 1, 0, none⟩, 2, [x, (p : Int)]⟩, ⟨ba.map (fun x => x.add (j * 80)), bc - j * 80, (b.drop (j * 80)).take 80⟩] = recB x b l j by
                unfold flat recB
                rw [HNX.out]
                simp only [List.flatMap_cons, List.flatMap_nil, List.append_nil, Nat.mul_comm 80 j, HPL.out]
                rw [List.append_assoc])
              rw [FL.out] at CC
              refine CC.mono ?_
              rintro e w6 ⟨v6, rfl, o6, B6⟩
              clear CC
              obtain ⟨a6, c6, rfl, hl6, -, -, r6, -, hn6'⟩ := row_of_owns o6
              have RL := hid (show (recB x b l j).length = 4 + p by rw [recB_length, Nat.mul_comm, HPL.out])
              have CL := vclosed_any a6 (recB x b l j).length c6 (recB x b l j) w6 r6 rfl hn6' (by rw [RL.out]; omega) (by
                unfold recB
                refine ((lay2_bytes _).append ?_).append (((HBY.out).drop _).take _)
                intro q hq
                have := partLen b j
                simp only [List.mem_cons, List.mem_nil_iff, or_false] at hq
                rcases hq with rfl | rfl <;> omega)
              have BA : Below wr.heap.size wr w6 := ((((Below.refl _ wr).alloc (Nat.le_refl _) _).alloc (by simp) _).alloc (by simp; omega) _).trans (B6.mono (by simp; omega))
              have BAH := hid BA
              clear hl6 r6 hn6' o6 B6 BA
              go_wp2_with fail
              refine CL.mono ?_
              rintro e w7 ⟨v7, rfl, o7, B7⟩
              clear CL
              have BB := hid (BAH.out.trans (B7.mono BAH.out.size))
              have HV7 := hid (show HldO w7 (fun q => q < x0 ∨ q = x0 + 1 ∨ q = r) x0 v7 (closed (recB x b l j)) from HldO.of_owns o7 (by have := BAH.out.size; have := BJS.out; omega) (fun q h1 h2 h => by
                have := BAH.out.size
                have := XJ.out.size
                have := HX3.out.size
                have := HRR.out
                have := HR.out
                have := RLT.out
                omega))
              obtain ⟨Z, hz1, hz2⟩ := (LJ.out.below BB.out (Nat.le_refl _)).out
              have HZ2 := hid hz2
              clear o7 B7 hz2
              go_wp2_with (first | (at_mapUpdate; refine wpList_mapUpdate_im rfl _ rfl _ _ _ 65 rfl 27 Tryz.underlying65 (x0 + 1) 4200 Z rfl hz1 (by unfold maxLen; omega) y v7 rfl rfl (by omega) ?_) | fail)
              intro w8 M8 G8
              have hlt8 : j < l.length := by rw [HMM.out]; exact hjm
              have L8 := hid (LaidS.put HZ2.out (fun k hk => by
                  rcases List.mem_append.1 hk with h | h
                  · have := TR.out k (List.mem_of_mem_take (List.mem_reverse.1 h)); omega
                  · have := SB.out k h; omega) (by omega) M8 (by
                  have h5 := laidT_at OK.out E1.out (j := j) hlt8
                  have h6 : l[j] = y := by have := HY.out; rw [List.getElem?_eq_getElem hlt8] at this; simpa using this
                  rw [← h6]
                  exact h5) HV7.out G8)
              have X8 : Ext (fun q => q = x0 + 1) w3 w8 := (XJ.out.trans (Ext.of_below BB.out _) (fun i _ h => h)).trans (Ext.of_grown G8) (fun i _ h => by have h : some (x0 + 1) = some i := h; simp only [Option.some.injEq] at h; omega)
              clear M8 G8
              go_wp2_with fail
              go_roundw
              case measure => simp [intOf]; omega
              case rel => exact ⟨j + 1, by go_num, by omega, by rw [HT.out]; exact L8, hid X8⟩
            · have HNX := hid (show (l[j + 1]?).getD 4095 = 4095 by rw [List.getElem?_eq_none (by rw [HMM.out]; omega)]; rfl)
              go_wp2_with fail
              refine (vlaid_any 4095 _ (by omega)).mono ?_
              rintro e wl ⟨rfl, rfl⟩
              go_wp2_with fail
              have CC := concat_any (some ⟨wr.heap.size + 1 + 1, 0, none⟩) 3 3 [⟨some ⟨wr.heap.size, 0, none⟩, 2, lay2 4095⟩, ⟨some ⟨wr.heap.size + 1, 0, none⟩, 2, [x, (p : Int)]⟩, ⟨ba.map (fun x => x.add (j * 80)), bc - j * 80, (b.drop (j * 80)).take 80⟩] (((wr.alloc (.cells (B8 (lay2 4095)).toArray 5)).alloc (.cells #[.int .u8 x, .int .u8 (p : Int)] 5)).alloc (.cells #[.slice (some ⟨wr.heap.size, 0, none⟩) 2 2, .slice (some ⟨wr.heap.size + 1, 0, none⟩) 2 2, .slice (ba.map (fun x => x.add (j * 80))) p (bc - j * 80)] 27)) (by
                  have e : [(⟨some ⟨wr.heap.size, 0, none⟩, 2, lay2 4095⟩ : Pt), ⟨some ⟨wr.heap.size + 1, 0, none⟩, 2, [x, (p : Int)]⟩, ⟨ba.map (fun x => x.add (j * 80)), bc - j * 80, (b.drop (j * 80)).take 80⟩].map Pt.val = [.slice (some ⟨wr.heap.size, 0, none⟩) 2 2, .slice (some ⟨wr.heap.size + 1, 0, none⟩) 2 2, .slice (ba.map (fun x => x.add (j * 80))) p (bc - j * 80)] := by
                    simp only [List.map_cons, List.map_nil, Pt.val, HPL.out]
                    rfl
                  rw [e]
                  exact row_at _ _ _ (by simp)) rfl (by decide) (by
                  intro q hq
                  rcases List.mem_cons.1 hq with rfl | hq
                  · exact pt_some (((row_at wr _ 5 rfl).alloc _).alloc _)
                  rcases List.mem_cons.1 hq with rfl | hq
                  · exact pt_some ((row_at (wr.alloc _) _ 5 (by simp)).alloc _)
                  obtain rfl := List.mem_singleton.1 hq
                  exact ⟨(((PROW.out).alloc _).alloc _).alloc _, PNN.out⟩) (by
                  have := HPL.out
                  simp only [flat, List.flatMap_cons, List.flatMap_nil, List.length_append, List.length_nil, lay2, List.length_cons]
                  omega)
              have FL := hid (show flat [(⟨some ⟨wr.heap.size, 0, none⟩, 2, lay2 4095⟩ : Pt), ⟨some ⟨wr.heap.size + 1, 0, none⟩, 2, [x, (p : Int)]⟩, ⟨ba.map (fun x => x.add (j * 80)), bc - j * 80, (b.drop (j * 80)).take 80⟩] = recB x b l j by
                unfold flat recB
                rw [HNX.out]
                simp only [List.flatMap_cons, List.flatMap_nil, List.append_nil, Nat.mul_comm 80 j, HPL.out]
                rw [List.append_assoc])
              rw [FL.out] at CC
              refine CC.mono ?_
              rintro e w6 ⟨v6, rfl, o6, B6⟩
              clear CC
              obtain ⟨a6, c6, rfl, hl6, -, -, r6, -, hn6'⟩ := row_of_owns o6
              have RL := hid (show (recB x b l j).length = 4 + p by rw [recB_length, Nat.mul_comm, HPL.out])
              have CL := vclosed_any a6 (recB x b l j).length c6 (recB x b l j) w6 r6 rfl hn6' (by rw [RL.out]; omega) (by
                unfold recB
                refine ((lay2_bytes _).append ?_).append (((HBY.out).drop _).take _)
                intro q hq
                have := partLen b j
                simp only [List.mem_cons, List.mem_nil_iff, or_false] at hq
                rcases hq with rfl | rfl <;> omega)
              have BA : Below wr.heap.size wr w6 := ((((Below.refl _ wr).alloc (Nat.le_refl _) _).alloc (by simp) _).alloc (by simp; omega) _).trans (B6.mono (by simp; omega))
              have BAH := hid BA
              clear hl6 r6 hn6' o6 B6 BA
              go_wp2_with fail
              refine CL.mono ?_
              rintro e w7 ⟨v7, rfl, o7, B7⟩
              clear CL
              have BB := hid (BAH.out.trans (B7.mono BAH.out.size))
              have HV7 := hid (show HldO w7 (fun q => q < x0 ∨ q = x0 + 1 ∨ q = r) x0 v7 (closed (recB x b l j)) from HldO.of_owns o7 (by have := BAH.out.size; have := BJS.out; omega) (fun q h1 h2 h => by
                have := BAH.out.size
                have := XJ.out.size
                have := HX3.out.size
                have := HRR.out
                have := HR.out
                have := RLT.out
                omega))
              obtain ⟨Z, hz1, hz2⟩ := (LJ.out.below BB.out (Nat.le_refl _)).out
              have HZ2 := hid hz2
              clear o7 B7 hz2
              go_wp2_with (first | (at_mapUpdate; refine wpList_mapUpdate_im rfl _ rfl _ _ _ 65 rfl 27 Tryz.underlying65 (x0 + 1) 4200 Z rfl hz1 (by unfold maxLen; omega) y v7 rfl rfl (by omega) ?_) | fail)
              intro w8 M8 G8
              have hlt8 : j < l.length := by rw [HMM.out]; exact hjm
              have L8 := hid (LaidS.put HZ2.out (fun k hk => by
                  rcases List.mem_append.1 hk with h | h
                  · have := TR.out k (List.mem_of_mem_take (List.mem_reverse.1 h)); omega
                  · have := SB.out k h; omega) (by omega) M8 (by
                  have h5 := laidT_at OK.out E1.out (j := j) hlt8
                  have h6 : l[j] = y := by have := HY.out; rw [List.getElem?_eq_getElem hlt8] at this; simpa using this
                  rw [← h6]
                  exact h5) HV7.out G8)
              have X8 : Ext (fun q => q = x0 + 1) w3 w8 := (XJ.out.trans (Ext.of_below BB.out _) (fun i _ h => h)).trans (Ext.of_grown G8) (fun i _ h => by have h : some (x0 + 1) = some i := h; simp only [Option.some.injEq] at h; omega)
              clear M8 G8
              go_wp2_with fail
              go_roundw
              case measure => simp [intOf]; omega
              case rel => exact ⟨j + 1, by go_num, by omega, by rw [HT.out]; exact L8, hid X8⟩
        · obtain rfl : j = m := by omega
          have RGJ := hid (HRG.out.ext XJ.out (by have := HX0.out; have := LT.out; omega) (by have := HR.out; omega))
          go_wp2_with fail
          go_roundw
          case measure => rw [RGJ.out.left_eq, ← HRG.out.left_eq]; exact L3.out
          case rel =>
            refine ⟨cnt3, _, _, RGJ.out, LJ, hid (fun k => ?_), hid (HX3.out.trans XJ.out (fun i _ h => h))⟩
            rw [List.take_of_length_le (Nat.le_of_eq HMM.out), List.mem_append, List.mem_reverse, CK.out k]
            have et := trks_of E1.out
            constructor
            · rintro (h | h | ⟨z, h1, h2⟩)
              · exact .inr ⟨x, by simp, by rw [et]; exact h⟩
              · exact .inl h
              · exact .inr ⟨z, by simp [h1], h2⟩
            · rintro (h | ⟨z, h1, h2⟩)
              · exact .inr (.inl h)
              · by_cases e : z = x
                · subst e; rw [et] at h2; exact .inl h2
                · exact .inr (.inr ⟨z, by simpa [e] using h1, h2⟩)

end Go.Proofs.YtleoelhhndeheaaGreat

/- package vault: a look that goes well -/
open Go Go.RowKit
namespace Go.Proofs.YtleoelhhndeheaaGreat

theorem ends0_any {w : World} {M : Dom} {B : Nat → Prop} {d l mb : Nat} {s : DS} {L : LS} (h : Sys w M B d l mb s L) :
    Calls Tryz.prog 71 #[.pointer (some ⟨l, 0, none⟩), .int .i64 0] w fun e w' => e = .returned (.int .i64 0) ∧ w = w' := by
  obtain ⟨-, -, -, -, -, -, c6⟩ := h.led.cells
  obtain ⟨lo, hlo⟩ : ∃ lo, L.lost = lo := ⟨_, rfl⟩
  have fr := fun o => blk_free (o := o) h.led.obj
  rw [hlo] at c6
  have HS := hid (setCell_self c6)
  clear h hlo
  cases lo with
  | true =>
    go_enter Tryz.func71, Tryz.ntmps71
    go_wp2_with fail
    go_ret
    exact ⟨rfl, HS.out.symm⟩
  | false =>
    go_enter Tryz.func71, Tryz.ntmps71
    go_wp2_with fail
    go_ret
    exact ⟨rfl, HS.out.symm⟩

set_option maxRecDepth 100000 in
set_option maxHeartbeats 8000000 in
theorem lookB_any {w : World} {M : Dom} {B : Nat → Prop} {d l mb : Nat} {s : DS} {L : LS} (h : Sys w M B d l mb s L) (ok : L.Ok s) (hlo : L.lost = false) (hbr : s.broken = false) (k : Int) (hk : 0 ≤ k ∧ k < L.H s) (hw : (L.lookZ s k).length = 96 ∧ IsBytes (L.lookZ s k)) :
    Calls Tryz.prog 76 #[.pointer (some ⟨l, 0, none⟩), .int .i64 k] w fun e w' => ∃ a c, e = .returned (.tuple #[.slice (some a) 96 c, .int .i64 0]) ∧ w'.ownsRow w.heap.size 5 1 (.slice (some a) 96 c) 96 (B8 (L.lookZ s k)) ∧ (L.lookZ s k).length = 96 ∧ IsBytes (L.lookZ s k) ∧ Below w.heap.size w w' := by
  have HW96 := hid hw.1
  have HWB := hid hw.2
  have HS := hid h
  have okl := ok.l
  have okn := ok.n1
  have OKT := hid ok.t
  have OKZ := hid ok.z
  obtain ⟨H, hH, hH2⟩ : ∃ H : Nat, L.H s = H ∧ (H : Int) + (2 + L.leaves) = s.n := ⟨_, rfl, by unfold LS.H; omega⟩
  have HHH := hid hH
  have HA := home_any h ok.lv
  rw [hH] at HA
  have hk2 : -1000000 ≤ k ∧ k ≤ 1000000 := by omega
  have HO := fun (W : World) (Bw : Below w.heap.size w W) => homeAt_any (h.below Bw) ok.lv k hk2
  obtain ⟨c0, -, -, -, -, c5, c6⟩ := h.led.cells
  have lw := lt_of_cell c0
  have TA := h.led.tkn.at hk2
  have hk0 : ¬ k < 0 := by omega
  have hkH : k < (H : Int) := by rw [← hH]; exact hk.2
  have hge : decide ((H : Int) ≤ k) = false := decide_eq_false (by omega)
  have HLO := hid hlo
  rw [hlo] at c6
  have HIN := hid (show 0 ≤ k ∧ k < L.H s by rw [hH]; omega)
  clear hlo hw hk
  rcases TA with ⟨ht, lk⟩ | ⟨v, zs, ht, ⟨ta, tc, rfl, tr, t96, tM, tby, tcc⟩, lk⟩
  · have hkn : (2 + L.leaves + k).toNat < s.n := by omega
    have hkc : ((2 + L.leaves + k).toNat : Int) = 2 + L.leaves + k := by omega
    have SB : ∀ W, Below w.heap.size w W → W.cell? ⟨l, 0, none⟩ = some (.pointer (some ⟨d, 0, none⟩)) ∧ True := fun W h => ⟨Below.cellAt h lw c0, trivial⟩
    have HC := hid (show L.lookC s k = 0 by unfold LS.lookC; rw [if_pos HIN.out, HLO.out, ht, hbr]; rfl)
    have HZ := hid (show L.lookZ s k = s.now (2 + L.leaves + k).toNat by unfold LS.lookZ; rw [HC.out, ht]; rfl)
    have HL := hid (show L.lookL s k = L by unfold LS.lookL; rw [if_neg]; rintro ⟨-, -, -, -, e⟩; rw [hbr] at e; cases e)
    have LK := fun (W : World) (Bw : Below w.heap.size w W) => look_up (h.drum.below Bw) hbr (2 + L.leaves + k).toNat hkn
    rw [hkc] at LK
    have HKC := hid hkc
    obtain ⟨zz, hzz⟩ : ∃ zz, s.now (2 + L.leaves + k).toNat = zz := ⟨_, rfl⟩
    rw [hzz] at LK
    have HZZ := hid (HZ.out.trans hzz)
    clear h ok hH ht hbr hkc hkn hzz
    go_enter Tryz.func76, Tryz.ntmps76
    go_wp2_with fail
    refine HA.mono ?_
    rintro e w1 ⟨rfl, rfl⟩
    clear HA
    go_wp2_with fail
    refine wp_region_held_drew (S := fun w' => w'.cell? ⟨l, 0, none⟩ = some (.pointer (some ⟨d, 0, none⟩)) ∧ True) (by kernel_rfl) (SB _ ((Below.refl w.heap.size w).drew)) (fun hHeld => ?_)
    refine wpAnyH_take (i := 0) (v := ?v16) (by simp only [List.getElem?_toArray, List.getElem?_cons_zero]; rfl) (by kernel_rfl) (by kernel_rfl) (by kernel_rfl) (by exact fun _ _ _ h => h) (Or.inl ⟨by rfl, ?h16⟩) (by assumption) ?r16
    case h16 => (intro w hSw; (try dsimp only at hSw); go_simp; try with_reducible rfl)
    try simp only [Act.put, List.setIfInBounds_toArray, List.set_cons_zero, List.set_cons_succ]
    refine wpAnyH_take (i := 1) (v := ?v17) (by simp only [List.getElem?_toArray, List.getElem?_cons_zero, List.getElem?_cons_succ]; rfl) (by kernel_rfl) (by kernel_rfl) (by kernel_rfl) (by exact fun _ _ _ h => h) (Or.inl ⟨by rfl, ?h17⟩) (by assumption) ?r17
    case h17 => (intro w hSw; (try dsimp only at hSw); go_simp; try with_reducible rfl)
    try simp only [Act.put, List.setIfInBounds_toArray, List.set_cons_zero, List.set_cons_succ]
    refine wpAnyH_take (i := 2) (v := ?v18) (by simp only [List.getElem?_toArray, List.getElem?_cons_zero, List.getElem?_cons_succ]; rfl) (by kernel_rfl) (by kernel_rfl) (by kernel_rfl) (by exact fun _ _ _ h => h) (Or.inl ⟨by rfl, ?h18⟩) (by assumption) ?r18
    case h18 => (intro w hSw; (try dsimp only at hSw); go_simp; try with_reducible rfl)
    try simp only [Act.put, List.setIfInBounds_toArray, List.set_cons_zero, List.set_cons_succ]
    refine wpAnyH_take (i := 3) (v := ?v19) (by simp only [List.getElem?_toArray, List.getElem?_cons_zero, List.getElem?_cons_succ]; rfl) (by kernel_rfl) (by kernel_rfl) (by kernel_rfl) (by exact fun _ _ _ h => h) (Or.inl ⟨by rfl, ?h19⟩) (by assumption) ?r19
    case h19 => (intro w hSw; (try dsimp only at hSw); go_simp; try with_reducible rfl)
    try simp only [Act.put, List.setIfInBounds_toArray, List.set_cons_zero, List.set_cons_succ]
    refine wpAnyH_take (i := 4) (v := ?v20) (by simp only [List.getElem?_toArray, List.getElem?_cons_zero, List.getElem?_cons_succ]; rfl) (by kernel_rfl) (by kernel_rfl) (by kernel_rfl) (by exact fun _ _ _ h => h) (Or.inl ⟨by rfl, ?h20⟩) (by assumption) ?r20
    case h20 => (intro w hSw; (try dsimp only at hSw); go_simp; try with_reducible rfl)
    try simp only [Act.put, List.setIfInBounds_toArray, List.set_cons_zero, List.set_cons_succ]
    refine wpAnyH_take (i := 5) (v := ?v21) (by simp only [List.getElem?_toArray, List.getElem?_cons_zero, List.getElem?_cons_succ]; rfl) (by kernel_rfl) (by kernel_rfl) (by kernel_rfl) (by exact fun _ _ _ h => h) (Or.inl ⟨by rfl, ?h21⟩) (by assumption) ?r21
    case h21 => (intro w hSw; (try dsimp only at hSw); go_simp; try with_reducible rfl)
    try simp only [Act.put, List.setIfInBounds_toArray, List.set_cons_zero, List.set_cons_succ]
    refine wpAnyH_ready (rs := [6]) (by kernel_rfl) (by simp) ?_
    refine (AllReadyH.cons (by simp only [List.getElem?_toArray, List.getElem?_cons_zero, List.getElem?_cons_succ]; rfl) (fun K hK => ?_) AllReadyH.nil)
    go_simp
    go_at_call 87
    refine (HO _ ((Below.refl w.heap.size w).drew)).mono ?_
    rintro e wq22 ⟨rfl, rfl⟩
    refine hK.out _ _ (SB _ (Below.refl w.heap.size w).drew) (fun hH23 => ?_)
    clear hK
    try simp only [Act.put, List.setIfInBounds_toArray, List.set_cons_zero, List.set_cons_succ]
    refine wpAnyH_ready (rs := [7]) (by kernel_rfl) (by simp) ?_
    refine (AllReadyH.cons (by simp only [List.getElem?_toArray, List.getElem?_cons_zero, List.getElem?_cons_succ]; rfl) (fun K hK => ?_) AllReadyH.nil)
    go_simp
    go_at_call 20
    refine (LK _ ((Below.refl w.heap.size w).drew)).mono ?_
    rintro e wq24 ⟨g24, c24, rfl, o24, z24, y24, k24, C24⟩
    have BB24 := ((Below.refl w.heap.size w).drew).trans (C24.mono (Below.size ((Below.refl w.heap.size w).drew)))
    refine hK.out _ _ (SB _ BB24) (fun hH25 => ?_)
    clear hK
    try simp only [Act.put, List.setIfInBounds_toArray, List.set_cons_zero, List.set_cons_succ]
    refine wpAnyH_take (i := 8) (v := ?v26) (by simp only [List.getElem?_toArray, List.getElem?_cons_zero, List.getElem?_cons_succ]; rfl) (by kernel_rfl) (by kernel_rfl) (by kernel_rfl) (by exact fun _ _ _ h => h) (Or.inl ⟨by rfl, ?h26⟩) (by assumption) ?r26
    case h26 => (intro w hSw; (try dsimp only at hSw); go_simp; try with_reducible rfl)
    try simp only [Act.put, List.setIfInBounds_toArray, List.set_cons_zero, List.set_cons_succ]
    refine wpAnyH_take (i := 9) (v := ?v27) (by simp only [List.getElem?_toArray, List.getElem?_cons_zero, List.getElem?_cons_succ]; rfl) (by kernel_rfl) (by kernel_rfl) (by kernel_rfl) (by exact fun _ _ _ h => h) (Or.inl ⟨by rfl, ?h27⟩) (by assumption) ?r27
    case h27 => (intro w hSw; (try dsimp only at hSw); go_simp; try with_reducible rfl)
    try simp only [Act.put, List.setIfInBounds_toArray, List.set_cons_zero, List.set_cons_succ]
    refine wpAnyH_take (i := 10) (v := ?v28) (by simp only [List.getElem?_toArray, List.getElem?_cons_zero, List.getElem?_cons_succ]; rfl) (by kernel_rfl) (by kernel_rfl) (by kernel_rfl) (by exact fun _ _ _ h => h) (Or.inl ⟨by rfl, ?h28⟩) (by assumption) ?r28
    case h28 => (intro w hSw; (try dsimp only at hSw); go_simp; try with_reducible rfl)
    try simp only [Act.put, List.setIfInBounds_toArray, List.set_cons_zero, List.set_cons_succ]
    refine wpAnyH_take (i := 11) (v := ?v29) (by simp only [List.getElem?_toArray, List.getElem?_cons_zero, List.getElem?_cons_succ]; rfl) (by kernel_rfl) (by kernel_rfl) (by kernel_rfl) (by exact fun _ _ _ h => h) (Or.inl ⟨by rfl, ?h29⟩) (by assumption) ?r29
    case h29 => (intro w hSw; (try dsimp only at hSw); go_simp; try with_reducible rfl)
    try simp only [Act.put, List.setIfInBounds_toArray, List.set_cons_zero, List.set_cons_succ]
    refine wpAnyH_take (i := 12) (v := ?v30) (by simp only [List.getElem?_toArray, List.getElem?_cons_zero, List.getElem?_cons_succ]; rfl) (by kernel_rfl) (by kernel_rfl) (by kernel_rfl) (by exact fun _ _ _ h => h) (Or.inl ⟨by rfl, ?h30⟩) (by assumption) ?r30
    case h30 => (intro w hSw; (try dsimp only at hSw); go_simp; try with_reducible rfl)
    try simp only [Act.put, List.setIfInBounds_toArray, List.set_cons_zero, List.set_cons_succ]
    refine wpAnyH_done (by kernel_rfl) ?_ _
    have S2 := hid (HS.out.below (BB24))
    have L2 := hid (show LStep M B w M B wq24 from LStep.of_below (BB24))
    have EN := ends0_any S2.out
    have O2 := hid (owns_mono o24 (Below.size ((Below.refl w.heap.size w).drew)))
    have Y2 := hid y24
    go_wp2_with fail
    refine EN.mono ?_
    rintro e w7 ⟨rfl, rfl⟩
    clear EN
    have B24H := hid BB24
    go_wp2_with fail
    go_ret2
    exact ⟨⟨g24, 0, none⟩, c24, rfl, by rw [HZZ.out]; exact O2.out, HW96.out, HWB.out, B24H.out⟩
  · have HC := hid (show L.lookC s k = 0 by unfold LS.lookC; rw [if_pos HIN.out, HLO.out, ht]; rfl)
    have HZ := hid (show L.lookZ s k = zs by unfold LS.lookZ; rw [HC.out, ht]; rfl)
    have HL := hid (show L.lookL s k = L by unfold LS.lookL; rw [if_neg]; rintro ⟨-, -, -, e, -⟩; rw [ht] at e; cases e)
    have CL := cloneB_any (some ta) 96 tc zs w tr t96 (fun h => by cases h) (by decide)
    have TB := hid tby
    clear h ok hH ht tr t96 tM tby
    go_enter Tryz.func76, Tryz.ntmps76
    go_wp2_with fail
    refine HA.mono ?_
    rintro e w1 ⟨rfl, rfl⟩
    clear HA HO
    go_wp2_with fail
    refine CL.mono ?_
    rintro e w2 ⟨v2, rfl, o2, B2⟩
    obtain ⟨a2, c2, rfl⟩ := owns_slice o2
    have O2 := hid o2
    have S2 := hid (HS.out.below B2)
    have L2 := hid (show LStep M B w M B w2 from LStep.of_below B2)
    have B2H := hid B2
    clear CL o2 B2
    go_wp2_with fail
    go_ret2
    obtain ⟨g, c', e5, -⟩ := owns_some O2.out (by omega)
    cases e5
    exact ⟨⟨g, 0, none⟩, c2, rfl, by rw [HZ.out]; exact O2.out, HW96.out, HWB.out, B2H.out⟩

end Go.Proofs.YtleoelhhndeheaaGreat

/- package vault: a chain of tracks -/
open Go Go.RowKit
open Go.Maps (Keyed has)
namespace Go.Proofs.YtleoelhhndeheaaGreat

/-- the ledger's view, as a vault reads it -/
structure Rd (w : World) (M : Dom) (B : Nat → Prop) (d l mb : Nat) (s : DS) (L : LS) (H : Nat) : Prop where
  sys : Sys w M B d l mb s L
  ok : L.Ok s
  lost : L.lost = false
  br : s.broken = false
  h : L.H s = H
  z : ∀ k : Int, 0 ≤ k ∧ k < H → (L.lookZ s k).length = 96 ∧ IsBytes (L.lookZ s k)
theorem Rd.below {w w' : World} {M : Dom} {B : Nat → Prop} {d l mb : Nat} {s : DS} {L : LS} {H : Nat} (h : Rd w M B d l mb s L H) (k : Below w.heap.size w w') : Rd w' M B d l mb s L H := ⟨h.sys.below k, h.ok, h.lost, h.br, h.h, h.z⟩
theorem Rd.le {w : World} {M : Dom} {B : Nat → Prop} {d l mb : Nat} {s : DS} {L : LS} {H : Nat} (h : Rd w M B d l mb s L H) : H ≤ 4095 := by
  have h1 := h.ok.n1
  have h2 := h.ok.l
  have h3 := h.h
  unfold LS.H at h3
  omega
theorem Rd.look {w : World} {M : Dom} {B : Nat → Prop} {d l mb : Nat} {s : DS} {L : LS} {H : Nat} (h : Rd w M B d l mb s L H) (k : Int) (hk : 0 ≤ k ∧ k < H) :
    Calls Tryz.prog 76 #[.pointer (some ⟨l, 0, none⟩), .int .i64 k] w fun e w' => ∃ a c, e = .returned (.tuple #[.slice (some a) 96 c, .int .i64 0]) ∧ w'.ownsRow w.heap.size 5 1 (.slice (some a) 96 c) 96 (B8 (L.lookZ s k)) ∧ (L.lookZ s k).length = 96 ∧ IsBytes (L.lookZ s k) ∧ Below w.heap.size w w' :=
  lookB_any h.sys h.ok h.lost h.br k (by rw [h.h]; exact hk) (h.z k hk)
theorem Rd.home {w : World} {M : Dom} {B : Nat → Prop} {d l mb : Nat} {s : DS} {L : LS} {H : Nat} (h : Rd w M B d l mb s L H) :
    Calls Tryz.prog 57 #[.pointer (some ⟨l, 0, none⟩)] w fun e w' => e = .returned (.int .i64 ((H : Nat) : Int)) ∧ w = w' := by
  have := home_any h.sys h.ok.lv
  rwa [h.h] at this

def ChainAns (w : World) (T : Int → List Int) (H : Nat) (sm : Nat) (seen : List Int) (id first : Int) (e : Ending) (w' : World) : Prop :=
  Ext (fun q => q = sm) w w' ∧
   ((∃ v u, e = .returned (.tuple #[v, u, .bool false]) ∧ ∀ x, chainV T H id (H + 1) first seen = some x → mayRec x = false) ∨
    (∃ x v u, e = .returned (.tuple #[v, u, .bool true]) ∧ chainV T H id (H + 1) first seen = some x ∧ mayRec x = true ∧ w'.ownsRow w.heap.size 5 1 v x.1.length (B8 x.1) ∧ IsBytes x.1 ∧ w'.ownsRow w.heap.size 3 1 u x.2.length (I8 x.2) ∧ (∀ k ∈ x.2, 0 ≤ k ∧ k < (H : Int)) ∧ x.2.Nodup ∧ (∀ k ∈ x.2, k ∉ seen) ∧ IMap w' sm 4200 (seenM (x.2.reverse ++ seen))))
theorem ChainAns.no {w w' : World} {T : Int → List Int} {H sm : Nat} {seen : List Int} {id first : Int} (hx : Ext (fun q => q = sm) w w') (h : chainV T H id (H + 1) first seen = none) (v u : Value) : ChainAns w T H sm seen id first (.returned (.tuple #[v, u, .bool false])) w' :=
  ⟨hx, .inl ⟨v, u, rfl, fun x e => by rw [h] at e; cases e⟩⟩
theorem zb_take' {x : List Int} {n i : Nat} (h : i < n) : zb (x.take n) i = zb x i := by
  unfold zb
  rw [List.getElem?_take, if_pos h]
theorem isTrk_no {z : List Int} (h : ¬ closed (z.take 84) = z) : isTrk z = false := decide_eq_false h
theorem isTrk_yes {z : List Int} (h : closed (z.take 84) = z) : isTrk z = true := decide_eq_true h

set_option maxRecDepth 100000 in
set_option maxHeartbeats 8000000 in
theorem chain_any {w0 w : World} {M : Dom} {B : Nat → Prop} {d l mb : Nat} {s : DS} {L : LS} {H : Nat} (h : Rd w0 M B d l mb s L H) (hB : Below w0.heap.size w0 w) (sm : Nat) (hsm : w0.heap.size ≤ sm) (seen : List Int) (hM : IMap w sm 4200 (seenM seen)) (hs : ∀ k ∈ seen, 0 ≤ k ∧ k < 4200) (id first : Int) (hid' : 1 ≤ id ∧ id ≤ 40) (hf : 0 ≤ first ∧ first < 65536) :
    Calls Tryz.prog 79 #[.pointer (some ⟨l, 0, none⟩), .int .i64 id, .int .i64 first, .map (some sm)] w (ChainAns w (L.lookZ s) H sm seen id first) := by
  obtain ⟨iB0, hiB, hB0, hB1, hB2⟩ := info_parts iB
  obtain ⟨iI0, hiI, hI0, hI1, hI2⟩ := info_parts iI
  have HH := hid h
  have hHl := h.le
  have HB := hid hB
  have HSM := hid hsm
  have HM := hid hM
  have HSEEN := hid hs
  have SML := hid hM.lt
  obtain ⟨T, hT⟩ : ∃ T, L.lookZ s = T := ⟨_, rfl⟩
  have HZ := hid h.z
  rw [hT] at HZ ⊢
  have HT := hid hT
  clear h hB hsm hM hs hT
  go_enter Tryz.func79, Tryz.ntmps79
  go_wp2_with fail
  go_loopw [11, 12, 13] (fun u11 u12 u13 wr => ∃ (acc dt : List Int) (k : Int) (dv tv : Value), dv = u11 ∧ tv = u12 ∧ u13 = .int .i64 k ∧ (0 ≤ k ∧ k < 65536) ∧ Hid (acc.Nodup ∧ (∀ q ∈ acc, 0 ≤ q ∧ q < (H : Int)) ∧ ∀ q ∈ acc, q ∉ seen) ∧ Hid (wr.ownsRow w.heap.size 5 1 dv dt.length (B8 dt)) ∧ Hid (IsBytes dt) ∧ Hid (dt.length ≤ 80 * acc.length) ∧ Hid (wr.ownsRow w.heap.size 3 1 tv acc.length (I8 acc)) ∧
      Hid (IMap wr sm 4200 (seenM (acc.reverse ++ seen))) ∧ Hid (Ext (fun q => q = sm) w wr) ∧ Hid (chainV T H id (H + 1) first seen = (chainV T H id (H + 1 - acc.length) k (acc.reverse ++ seen)).map (fun x => (dt ++ x.1, acc ++ x.2)))) (fun _ v _ _ => H + 1 - slLen v)
  case atStart =>
    exact ⟨[], [], first, _, _, rfl, rfl, rfl, hf, hid ⟨List.nodup_nil, by simp, by simp⟩, hid (World.ownsRow_nil _ _ _ _), hid (fun q hq => by cases hq), hid (Nat.zero_le _), hid (World.ownsRow_nil _ _ _ _), HM, hid (Ext.refl _ _), hid (by simp)⟩
  case round =>
    obtain ⟨acc, dt, k, dv, tv, rfl, rfl, rfl, hk, HA, OD, DB, DL, OT, MK, XK, HC⟩ := hrel
    obtain ⟨da, dc, rfl⟩ := owns_slice OD.out
    obtain ⟨ta, tc, rfl⟩ := owns_slice OT.out
    have hal : acc.length ≤ H := nodup_lt_int H acc HA.out.1 HA.out.2.1
    obtain ⟨f, hfe⟩ : ∃ f, H + 1 - acc.length = f + 1 := ⟨H - acc.length, by omega⟩
    have HF := hid (show f = H + 1 - (acc.length + 1) by omega)
    have hdl : dt.length ≤ 80 * 4096 := by have := DL.out; omega
    rw [hfe] at HC
    have BW : Below w0.heap.size w0 wr := Below.ext HB.out XK.out (fun i h => by have := HSM.out; omega) HB.out.size
    have HBW := hid BW
    have HO := (HH.out.below BW).home
    obtain ⟨m, hm⟩ : ∃ m, acc.length = m := ⟨_, rfl⟩
    obtain ⟨n, hn⟩ : ∃ n, dt.length = n := ⟨_, rfl⟩
    rw [hm] at OT hal
    rw [hn] at OD hdl
    try rw [hm]
    try rw [hn]
    have HM' := hid hm
    have HN' := hid hn
    clear BW hfe hm hn
    by_cases hkH : (H : Int) ≤ k
    · have hge : decide ((H : Int) ≤ k) = true := decide_eq_true hkH
      have hno : chainV T H id (H + 1) first seen = none := by
        rw [HC.out]; unfold chainV; rw [if_pos (.inl hkH)]; rfl
      have HNO := hid hno
      clear hno
      go_wp2_with fail
      refine HO.mono ?_
      rintro e w1 ⟨rfl, rfl⟩
      clear HO
      go_wp2_with fail
      go_ret3
      exact ChainAns.no XK.out HNO.out _ _
    · have hge : decide ((H : Int) ≤ k) = false := decide_eq_false hkH
      have lk := MK.out.look Tryz.underlying116 (zB wr) (x := k) (by omega)
      by_cases hks : k ∈ acc.reverse ++ seen
      · have hno : chainV T H id (H + 1) first seen = none := by
          rw [HC.out]; unfold chainV; rw [if_pos (.inr hks)]; rfl
        have HNO := hid hno
        rw [show (seenM (acc.reverse ++ seen) k).getD (.bool false) = .bool true by unfold seenM; rw [if_pos hks]; rfl] at lk
        clear hno hks
        go_wp2_with fail
        refine HO.mono ?_
        rintro e w1 ⟨rfl, rfl⟩
        clear HO
        go_wp2_with fail
        go_ret3
        exact ChainAns.no XK.out HNO.out _ _
      · rw [show (seenM (acc.reverse ++ seen) k).getD (.bool false) = .bool false by unfold seenM; rw [if_neg hks]; rfl] at lk
        have HKS := hid hks
        clear hks
        go_wp2_with fail
        refine HO.mono ?_
        rintro e w1 ⟨rfl, rfl⟩
        clear HO
        go_wp2_with (first | (at_mapUpdate; refine wpList_mapUpdate_im rfl _ rfl _ _ _ 116 rfl 4 Tryz.underlying116 sm 4200 _ rfl MK.out (by unfold maxLen; omega) k (.bool true) rfl rfl (by omega) ?_) | fail)
        intro w2 M2 G2
        rw [seenM_cons] at M2
        have X2 : Ext (fun q => q = sm) w w2 := XK.out.trans (Ext.of_grown G2) (fun i _ h => by have h : some sm = some i := h; simp only [Option.some.injEq] at h; omega)
        have M2' := hid (M2.small (H := 4200) (seen_small _ (fun q hq => by
          rcases List.mem_cons.1 hq with rfl | hq
          · omega
          rcases List.mem_append.1 hq with h | h
          · have := HA.out.2.1 q (List.mem_reverse.1 h); omega
          · exact HSEEN.out q h)))
        have HX2 := hid X2
        have B2 : Below w0.heap.size w0 w2 := Below.ext HB.out X2 (fun i h => by have := HSM.out; omega) HB.out.size
        have G2s := hid G2.size
        have XG : Ext (fun q => q = sm) wr w2 := (Ext.of_grown G2).mono (fun i _ h => by have h : some sm = some i := h; simp only [Option.some.injEq] at h; omega)
        have OD2 := hid (XG.owns (fun g hg hf => by subst hf; have := (OD.out.lt g hg).1; have := SML.out; omega) OD.out)
        have OT2 := hid (XG.owns (fun g hg hf => by subst hf; have := (OT.out.lt g hg).1; have := SML.out; omega) OT.out)
        have LK := (HH.out.below B2).look k ⟨hk.1, by omega⟩
        rw [HT.out] at LK
        obtain ⟨zs, hzs⟩ : ∃ zs, T k = zs := ⟨_, rfl⟩
        rw [hzs] at LK
        have HZS := hid hzs
        have SW2 := hid (Nat.le_trans X2.size (Nat.le_refl _))
        clear M2 G2 X2 XG lk hzs OD OT MK B2
        go_wp2_with fail
        refine LK.mono ?_
        rintro e w3 ⟨za, zc, rfl, oz, z96, zby, B3⟩
        clear LK
        obtain ⟨za', zc', ez, -, zle, zm, zrow, -, -⟩ := row_of_owns oz
        cases ez
        have HB3 := hid B3
        have ZB := hid zby
        have Z96 := hid z96
        have OPY := fun ho => open_yes (some za) zc zs w3 zrow z96 zle (by simp only [maxLen] at zm; omega) zby ho
        have OPN := fun ho => open_no (some za) zc zs w3 zrow z96 zle (by simp only [maxLen] at zm; omega) zby ho
        clear oz zrow zle zm B3 zby z96
        by_cases htr : closed (zs.take 84) = zs
        · have OP := OPY htr
          have HTR := hid (isTrk_yes htr)
          clear OPY OPN htr
          go_wp2_with fail
          refine OP.mono ?_
          rintro e w4 ⟨v4, rfl, o4, B4⟩
          clear OP
          obtain ⟨a4, c4, rfl, -, c4l, c4m, r4, -, -⟩ := row_of_owns o4
          have hl84 : (zs.take 84).length = 84 := by have := Z96.out; rw [List.length_take]; omega
          have hr4 := r4.nn (by rw [B8_length, hl84]; decide)
          obtain ⟨ab, ao, rfl⟩ : ∃ ab ao, a4 = some ⟨ab, ao, none⟩ := ⟨_, _, hr4⟩
          have ix2 : ∀ W', (Instr.indexAt 27 (.slice (some ⟨ab, ao, none⟩) 84 c4) (.int .i64 2)).run Tryz.prog W' = .ok (.pointer (some ⟨ab, ao + 2, none⟩)) W' := idx_at1 (P := Tryz.prog) (T := 27) Tryz.underlying27 szB (cap := c4) (fun _ => rfl) (show 2 < 84 by omega)
          have ix3 : ∀ W', (Instr.indexAt 27 (.slice (some ⟨ab, ao, none⟩) 84 c4) (.int .i64 3)).run Tryz.prog W' = .ok (.pointer (some ⟨ab, ao + 3, none⟩)) W' := idx_at1 (P := Tryz.prog) (T := 27) Tryz.underlying27 szB (cap := c4) (fun _ => rfl) (show 3 < 84 by omega)
          have e2 : w4.cell? ⟨ab, ao + 2, none⟩ = some (.int .u8 (zb zs 2)) := by have := r4.byte (i := 2) (by omega); rw [show (zs.take 84)[2]?.getD 0 = zb zs 2 from zb_take' (by omega)] at this; exact this
          have e3 : w4.cell? ⟨ab, ao + 3, none⟩ = some (.int .u8 (zb zs 3)) := by have := r4.byte (i := 3) (by omega); rw [show (zs.take 84)[3]?.getD 0 = zb zs 3 from zb_take' (by omega)] at this; exact this
          have b2 := zb_bd ZB.out 2
          have b3 := zb_bd ZB.out 3
          obtain ⟨x2, hx2⟩ : ∃ x2, zb zs 2 = x2 := ⟨_, rfl⟩
          obtain ⟨x3, hx3⟩ : ∃ x3, zb zs 3 = x3 := ⟨_, rfl⟩
          rw [hx2] at e2 b2
          rw [hx3] at e3 b3
          have HX22 := hid hx2
          have HX33 := hid hx3
          have R4 := hid r4
          have HB4 := hid (HB3.out.trans (B4.mono HB3.out.size))
          have SA4 := hid hl84
          clear o4 B4 r4 hr4 hx2 hx3 hl84
          by_cases hid2 : x2 = id
          · subst hid2
            by_cases h80 : 80 < x3
            · have hno : chainV T H x2 (H + 1) first seen = none := by
                rw [HC.out]; unfold chainV; rw [if_neg (fun h => h.elim (fun h => by omega) HKS.out), HZS.out, if_pos (.inr (.inr (by rw [HX33.out]; exact h80)))]; rfl
              have HNO := hid hno
              have h80i : decide ((80 : Int) < x3) = true := decide_eq_true h80
              clear hno
              go_wp2_with fail
              go_ret3
              exact ChainAns.no ((HX2.out.trans (Ext.of_below HB4.out (fun q => q = sm)) (fun i _ h => h))) HNO.out _ _
            · have h80i : decide ((80 : Int) < x3) = false := decide_eq_false h80
              have NU := vnumber_any (some ⟨ab, ao, none⟩) 84 c4 (zs.take 84) w4 R4.out SA4.out (by decide) (ZB.out.take 84)
              obtain ⟨nx, hnx⟩ : ∃ nx, n2 (zs.take 84) 0 = nx := ⟨_, rfl⟩
              rw [hnx] at NU
              have HNX := hid (show n2 zs 0 = nx by rw [← hnx]; unfold n2; rw [zb_take' (by omega), zb_take' (by omega)])
              have NXB := hid (show 0 ≤ nx ∧ nx < 65536 by have h0 := zb_bd (ZB.out.take 84) 0; have h1 := zb_bd (ZB.out.take 84) (0 + 1); rw [← hnx]; unfold n2; omega)
              clear hnx
              go_wp2_with fail
              refine NU.mono ?_
              rintro e w5 ⟨rfl, B5⟩
              clear NU
              have e3' : w5.cell? ⟨ab, ao + 3, none⟩ = some (.int .u8 x3) := Below.cellAt B5 (lt_of_cell e3) e3
              have HB5 := hid (HB4.out.trans (B5.mono HB4.out.size))
              have R5 := hid (R4.out.below B5 (Nat.le_refl _))
              obtain ⟨p, rfl⟩ : ∃ p : Nat, x3 = p := ⟨x3.toNat, by omega⟩
              have PL := hid (show (partT zs).length = p by unfold partT; rw [HX33.out, List.length_take, List.length_drop, Z96.out]; simp; omega)
              have PR : Row w5 (some ⟨ab, ao + 4, none⟩) (B8 (partT zs)) := by
                have h1 := (Row.drop R5.out 4).take p
                have e : ((B8 (zs.take 84)).drop 4).take p = B8 (partT zs) := by
                  unfold partT
                  rw [HX33.out]
                  simp only [B8, ← List.map_take, ← List.map_drop]
                  rw [List.drop_take, List.take_take, show min p (84 - 4) = p by omega, show ((p : Nat) : Int).toNat = p by omega]
                rwa [e] at h1
              have PB := hid (show IsBytes (partT zs) from (ZB.out.drop _).take _)
              have HPR := hid PR
              have SZ5 := hid (Nat.le_trans SW2.out (Nat.le_trans HB5.out.size (Nat.le_refl _)))
              have OD5 := hid ((Below.owns HB5.out (Nat.le_refl _) OD2.out))
              have OT5 := hid ((Below.owns HB5.out (Nat.le_refl _) OT2.out))
              clear PR
              go_wp2_with (first | (at_builtin; refine wpList_append_rowG (P := Tryz.prog) rfl _ _ 27 rfl w.heap.size 5 iB0 (.int .u8 0) Tryz.underlying27 hiB hB0 hB1 (by omega) rfl _ n _ rfl OD5.out (some ⟨ab, ao + 4, none⟩) (4 + p - 4) (c4 - 4) (B8 (partT zs)) rfl HPR.out (by rw [B8_length]; have := PL.out; omega) (fun h => by cases h) (B8_one _) (by omega) SZ5.out ?_) | fail)
              intro v6 w6 o6 G6
              obtain ⟨a6, c6, rfl⟩ := owns_slice o6
              have X6 := Ext.of_grown G6
              have OT6 : w6.ownsRow w.heap.size 3 1 (.slice ta m tc) m (I8 acc) := X6.owns (fun g hg hf => owns_ne2 OD5.out OT5.out (by decide) g hg hf) OT5.out
              have M6 := hid ((M2'.out.below HB5.out (Nat.le_refl _)).ext X6 (fun hf => by have := (OD5.out.lt sm hf).1; have := SML.out; omega))
              have XX6 : Ext (fun q => q = sm) w w6 := (HX2.out.trans (Ext.of_below HB5.out (fun q => q = sm)) (fun i _ h => h)).trans X6 (fun i hi hf => by have := (OD5.out.lt i hf).1; omega)
              have S6 := hid XX6.size
              have OD6 := hid o6
              have HOT6 := hid OT6
              have HXX6 := hid XX6
              clear G6 X6 o6 OT6 XX6 OD5 OT5 M2' OD2 OT2
              go_wp2_with (first | (at_builtin; refine wpList_append_rowG (P := Tryz.prog) rfl _ _ 33 rfl w.heap.size 3 iI0 (.int .i64 0) Tryz.underlying33 hiI hI0 hI1 (by omega) rfl _ m _ rfl (HOT6.out.alloc _) (some ⟨w6.heap.size, 0, none⟩) 1 1 [.int .i64 k] rfl (row_at _ _ _ rfl) rfl (fun h => by cases h) (fun u hu => by simp at hu; subst hu; rfl) (by omega) (by have := S6.out; simp; omega) ?_) | fail)
              intro v7 w7 o7 G7
              obtain ⟨a7, c7, rfl⟩ := owns_slice o7
              have X7 := Ext.of_grown G7
              have OD7 := hid (X7.owns (fun g hg hf => owns_ne2 (HOT6.out.alloc (.cells #[.int .i64 k] 3)) (OD6.out.alloc (.cells #[.int .i64 k] 3)) (by decide) g hg hf) (OD6.out.alloc (.cells #[.int .i64 k] 3)))
              have M7 := hid ((M6.out.below ((Below.refl _ _).alloc (Nat.le_refl _) (.cells #[.int .i64 k] 3)) (Nat.le_refl _)).ext X7 (fun hf => by have := (HOT6.out.lt sm hf).1; have := SML.out; omega))
              have XX7 := hid ((HXX6.out.alloc (.cells #[.int .i64 k] 3)).trans X7 (fun i hi hf => by have := (HOT6.out.lt i hf).1; omega))
              have OT7 := hid (show w7.ownsRow w.heap.size 3 1 (.slice a7 (m + 1) c7) (m + 1) (I8 (acc ++ [k])) by rw [← I8_append]; exact o7)
              have OD8 := hid (show w7.ownsRow w.heap.size 5 1 (.slice a6 (n + p) c6) (n + p) (B8 (dt ++ partT zs)) by rw [B8, List.map_append]; exact OD7.out)
              have HNA := hid (show (acc ++ [k]).Nodup ∧ (∀ q ∈ acc ++ [k], 0 ≤ q ∧ q < (H : Int)) ∧ ∀ q ∈ acc ++ [k], q ∉ seen by
                have hk1 : k ∉ acc := fun h => HKS.out (List.mem_append_left _ (List.mem_reverse.2 h))
                have hk2 : k ∉ seen := fun h => HKS.out (List.mem_append_right _ h)
                refine ⟨List.nodup_append.2 ⟨HA.out.1, by simp, fun a ha b hb e => ?_⟩, fun q hq => ?_, fun q hq => ?_⟩
                · obtain rfl := List.mem_singleton.1 hb
                  exact hk1 (e ▸ ha)
                · rcases List.mem_append.1 hq with h | h
                  · exact HA.out.2.1 q h
                  · obtain rfl := List.mem_singleton.1 h; omega
                · rcases List.mem_append.1 hq with h | h
                  · exact HA.out.2.2 q h
                  · obtain rfl := List.mem_singleton.1 h; exact hk2)
              have HRV := hid (show (acc ++ [k]).reverse ++ seen = k :: (acc.reverse ++ seen) by simp)
              have hm1 : m + 1 ≤ H := by
                have := nodup_lt_int H (acc ++ [k]) HNA.out.1 HNA.out.2.1
                have h := HM'.out
                rw [List.length_append] at this
                simp at this; omega
              have DL8 := hid (show (dt ++ partT zs).length ≤ 80 * (acc ++ [k]).length by
                have := DL.out; have := PL.out; rw [List.length_append, List.length_append]; simp; omega)
              have LN8 := hid (show (dt ++ partT zs).length = n + p by have := PL.out; have := HN'.out; rw [List.length_append]; omega)
              have DB8 := hid (DB.out.append PB.out)
              have HCC := hid (show chainV T H x2 (f + 1) k (acc.reverse ++ seen) = if nx = 4095 then some (partT zs, [k]) else (chainV T H x2 f nx (k :: (acc.reverse ++ seen))).map fun x => (partT zs ++ x.1, k :: x.2) by
                show (if _ then _ else _) = _
                rw [if_neg (fun h => h.elim (fun h => by omega) HKS.out), HZS.out, if_neg, HNX.out]
                rintro (h | h | h)
                · rw [HTR.out] at h; cases h
                · exact h HX22.out
                · rw [HX33.out] at h; omega)
              clear G7 X7 o7 OD7 M6 OD6 HOT6 HXX6
              by_cases hnx : nx = 4095
              · subst hnx
                have HCS := hid (show chainV T H x2 (H + 1) first seen = some (dt ++ partT zs, acc ++ [k]) by rw [HC.out, HCC.out, if_pos rfl]; rfl)
                by_cases h6 : n + p ≤ 60000
                · have h6i : decide (((n + p : Nat) : Int) ≤ 60000) = true := decide_eq_true (by omega)
                  have h6j : decide ((n : Int) + (p : Int) ≤ 60000) = true := decide_eq_true (by omega)
                  have TK := takes_any (n + p) w7 (by omega)
                  obtain ⟨tk, htk⟩ : ∃ tk, takes (n + p) = tk := ⟨_, rfl⟩
                  rw [htk] at TK
                  have HTK := hid htk
                  have tkb : tk ≤ 1000 := by rw [← htk]; unfold takes; omega
                  clear htk
                  go_wp2_with fail
                  refine TK.mono ?_
                  rintro e w8 ⟨rfl, rfl⟩
                  clear TK
                  by_cases heq : m + 1 = tk
                  · have heqi : (((m : Int) + 1) == (tk : Int)) = true := by simp; omega
                    have heqj : (((m + 1 : Nat) : Int) == (tk : Int)) = true := by simp; omega
                    have HEQ := hid heq
                    clear heq
                    go_wp2_with fail
                    go_ret3
                    refine ⟨XX7.out, .inr ⟨(dt ++ partT zs, acc ++ [k]), _, _, rfl, HCS.out, ?_, ?_, DB8.out, ?_, HNA.out.2.1, HNA.out.1, HNA.out.2.2, by rw [HRV.out]; exact M7.out⟩⟩
                    · unfold mayRec
                      have : (acc ++ [k]).length = tk := by rw [List.length_append, HM'.out]; exact HEQ.out
                      simp only [LN8.out, this, HTK.out]
                      rw [decide_eq_true h6]; simp
                    · rw [LN8.out]; exact OD8.out
                    · rw [show (acc ++ [k]).length = m + 1 by rw [List.length_append, HM'.out]; rfl]
                      exact OT7.out
                  · have heqi : (((m : Int) + 1) == (tk : Int)) = false := by simp; omega
                    have heqj : (((m + 1 : Nat) : Int) == (tk : Int)) = false := by simp; omega
                    go_wp2_with fail
                    go_ret3
                    refine ⟨XX7.out, .inl ⟨_, _, rfl, fun x hx => ?_⟩⟩
                    rw [HCS.out] at hx
                    cases hx
                    unfold mayRec
                    have : (acc ++ [k]).length = m + 1 := by rw [List.length_append, HM'.out]; rfl
                    simp only [LN8.out, this, HTK.out]
                    rw [decide_eq_false heq, Bool.and_false]
                · have h6i : decide (((n + p : Nat) : Int) ≤ 60000) = false := decide_eq_false (by omega)
                  have h6j : decide ((n : Int) + (p : Int) ≤ 60000) = false := decide_eq_false (by omega)
                  go_wp2_with fail
                  go_ret3
                  refine ⟨XX7.out, .inl ⟨_, _, rfl, fun x hx => ?_⟩⟩
                  rw [HCS.out] at hx
                  cases hx
                  unfold mayRec
                  simp only [LN8.out]
                  rw [decide_eq_false h6]; rfl
              · have hnxi : (nx == 4095) = false := by simpa using hnx
                have HCN := hid (show chainV T H x2 (H + 1) first seen = (chainV T H x2 (H + 1 - (acc ++ [k]).length) nx ((acc ++ [k]).reverse ++ seen)).map fun x => ((dt ++ partT zs) ++ x.1, (acc ++ [k]) ++ x.2) by
                  rw [HC.out, HCC.out, if_neg hnx, HRV.out, show H + 1 - (acc ++ [k]).length = f by rw [List.length_append, HF.out]; rfl]
                  cases chainV T H x2 f nx (k :: (acc.reverse ++ seen)) with
                  | none => rfl
                  | some x => simp)
                go_wp2_with fail
                go_roundw
                case measure => simp [slLen]; omega
                case rel =>
                  refine ⟨acc ++ [k], dt ++ partT zs, nx, _, _, rfl, rfl, rfl, NXB.out, HNA, by rw [LN8.out]; exact OD8, DB8, DL8, ?_, hid (by rw [HRV.out]; exact M7.out), XX7, HCN⟩
                  rw [show (acc ++ [k]).length = m + 1 by rw [List.length_append, HM'.out]; rfl]
                  exact OT7
          · have hno : chainV T H id (H + 1) first seen = none := by
              rw [HC.out]; unfold chainV; rw [if_neg (fun h => h.elim (fun h => by omega) HKS.out), HZS.out, if_pos (.inr (.inl (by rw [HX22.out]; exact hid2)))]; rfl
            have HNO := hid hno
            have hidi : (x2 != id) = true := by simp [hid2]
            clear hno
            go_wp2_with fail
            go_ret3
            exact ChainAns.no ((HX2.out.trans (Ext.of_below HB4.out (fun q => q = sm)) (fun i _ h => h))) HNO.out _ _
        · have OP := OPN htr
          have hno : chainV T H id (H + 1) first seen = none := by
            rw [HC.out]; unfold chainV; rw [if_neg (fun h => h.elim (fun h => by omega) HKS.out), HZS.out, if_pos (.inl (isTrk_no htr))]; rfl
          have HNO := hid hno
          clear OPY OPN htr hno
          go_wp2_with fail
          refine OP.mono ?_
          rintro e w4 ⟨rfl, B4⟩
          clear OP
          have HB4 := hid (HB3.out.trans (B4.mono HB3.out.size))
          go_wp2_with fail
          go_ret3
          exact ChainAns.no ((HX2.out.trans (Ext.of_below HB4.out (fun q => q = sm)) (fun i _ h => h))) HNO.out _ _

end Go.Proofs.YtleoelhhndeheaaGreat

/- package vault: load -/
open Go Go.RowKit
open Go.Maps (Keyed has)
namespace Go.Proofs.YtleoelhhndeheaaGreat

def LoadAns (w : World) (T : Int → List Int) (H : Nat) (e : Ending) (w' : World) : Prop :=
  Below w.heap.size w w' ∧ ∃ d' t', w.heap.size ≤ d' ∧ w.heap.size ≤ t' ∧
    ((∃ R, loadV T H = some R ∧ e = .returned (.tuple #[.agg #[.map (some d'), .map (some t')], .int .i64 0]) ∧ RecP w' (fun q => q < w.heap.size ∨ q = d' ∨ q = t') d' t' R ∧ RcsOk R H) ∨
     (loadV T H = none ∧ e = .returned (.tuple #[.agg #[.map (some d'), .map (some t')], .int .i64 11])))
theorem loadFrom_cons (T : Int → List Int) (H : Nat) (i : Int) (r seen : List Int) (R : Rcs) : loadFrom T H (i :: r) seen R = if n2 (T 0) (2 * (i - 1)).toNat = 0 then loadFrom T H r seen R else match chainV T H i (H + 1) (n2 (T 0) (2 * (i - 1)).toNat) seen with
      | none => none
      | some x => if mayRec x = true then loadFrom T H r (x.2.reverse ++ seen) (R.put i x) else none := rfl
theorem ids40_drop {j : Nat} (h : j < 40) : ids40.drop j = ((j : Int) + 1) :: ids40.drop (j + 1) := by
  have h2 := ids40_j h
  have hl : j < ids40.length := h
  rw [List.drop_eq_getElem_cons hl]
  rw [List.getElem?_eq_getElem hl] at h2
  rw [Option.some.inj h2]
/-- what the walk over the numbers keeps -/
structure Ld (R : Rcs) (H j : Nat) (seen : List Int) : Prop where
  ok : RcsOk R H
  k : ∀ i x, R i = some x → i ≤ j
  t : ∀ i, ∀ k ∈ R.trks i, k ∈ seen
  z : (0 : Int) ∈ seen
  s : ∀ k ∈ seen, 0 ≤ k ∧ k < 4200
theorem Ld.skip {R : Rcs} {H j : Nat} {seen : List Int} (h : Ld R H j seen) : Ld R H (j + 1) seen := ⟨h.ok, fun i x e => by have := h.k i x e; omega, h.t, h.z, h.s⟩
theorem Ld.put {R : Rcs} {H j : Nat} {seen : List Int} (h : Ld R H j seen) (hj : j < 40) (hH : H ≤ 4095) {x : List Int × List Int} (hm : mayRec x = true) (hb : IsBytes x.1) (hr : ∀ k ∈ x.2, 0 ≤ k ∧ k < (H : Int)) (hd : x.2.Nodup) (hs : ∀ k ∈ x.2, k ∉ seen) : Ld (R.put ((j : Int) + 1) x) H (j + 1) (x.2.reverse ++ seen) := by
  unfold mayRec at hm
  simp only [Bool.and_eq_true, decide_eq_true_eq] at hm
  have e : x = (x.1, x.2) := rfl
  refine ⟨?_, fun i y hy => ?_, fun i k hk => ?_, List.mem_append_right _ h.z, fun k hk => ?_⟩
  · rw [e]
    refine h.ok.put (by omega) hm.1 hb hm.2 hd (fun k hk => ⟨?_, fun i _ hi => hs k hk (h.t i k hi)⟩)
    have h0 := hr k hk
    have h1 : k ≠ 0 := fun e => hs k hk (e ▸ h.z)
    omega
  · unfold Rcs.put at hy
    by_cases e : i = (j : Int) + 1
    · omega
    · rw [if_neg e] at hy
      have := h.k i y hy
      omega
  · by_cases e : i = (j : Int) + 1
    · subst e
      have : (R.put ((j : Int) + 1) x).trks ((j : Int) + 1) = x.2 := by unfold Rcs.trks Rcs.put; simp
      rw [this] at hk
      exact List.mem_append_left _ (List.mem_reverse.2 hk)
    · have : (R.put ((j : Int) + 1) x).trks i = R.trks i := by unfold Rcs.trks Rcs.put; simp [e]
      rw [this] at hk
      exact List.mem_append_right _ (h.t i k hk)
  · rcases List.mem_append.1 hk with hk | hk
    · have := hr k (List.mem_reverse.1 hk); omega
    · exact h.s k hk
theorem Ld.none (H : Nat) : Ld noRcs H 0 [0] := ⟨RcsOk.none H, nofun, fun i k hk => by simp [Rcs.trks, noRcs] at hk, by simp, fun k hk => by simp at hk; omega⟩
theorem RecP.empty {w : World} {D : Nat → Prop} {d t : Nat} (hne : d ≠ t) (h1 : IMap w d 41 (fun _ => none)) (h2 : IMap w t 41 (fun _ => none)) : RecP w D d t noRcs := ⟨hne, _, _, h1, h2, fun x => .inl ⟨rfl, rfl, rfl⟩⟩

set_option maxRecDepth 100000 in
set_option maxHeartbeats 8000000 in
theorem load_any {w : World} {M : Dom} {B : Nat → Prop} {d l mb : Nat} {s : DS} {L : LS} {H : Nat} (h : Rd w M B d l mb s L H) :
    Calls Tryz.prog 49 #[.pointer (some ⟨l, 0, none⟩)] w (LoadAns w (L.lookZ s) H) := by
  have HH := hid h
  have hHl := h.le
  have hH2 : 2 ≤ H := by
    have h1 := h.ok.l
    have h3 := h.h
    unfold LS.H at h3
    omega
  obtain ⟨T, hT⟩ : ∃ T, L.lookZ s = T := ⟨_, rfl⟩
  have HZ := hid h.z
  rw [hT] at HZ ⊢
  have HT := hid hT
  have hmm := @run_makeMap Tryz.prog
  obtain ⟨x0, hx0⟩ : ∃ x0, w.heap.size = x0 := ⟨_, rfl⟩
  obtain ⟨W1, hW1⟩ : ∃ W1, ((((w.alloc (.cells #[.map none, .map none] 68)).alloc (.map #[] 0)).alloc (.map #[] 0)).alloc (.cells #[.map (some (x0 + 1)), .map (some (x0 + 1 + 1))] 68)) = W1 := ⟨_, rfl⟩
  have BW1 : Below w.heap.size w W1 := by
    rw [← hW1]
    exact ((((Below.refl _ w).alloc (Nat.le_refl _) _).alloc (by simp) _).alloc (by simp; omega) _).alloc (by simp; omega) _
  have sW1 : W1.heap.size = x0 + 4 := by rw [← hW1, ← hx0]; simp
  have z0 : W1.cell? ⟨x0 + 3, 0, none⟩ = some (.map (some (x0 + 1))) := by rw [← hW1]; exact blk_cell (blk_at _ (by simp [hx0])) rfl
  have z1 : W1.cell? ⟨x0 + 3, 1, none⟩ = some (.map (some (x0 + 1 + 1))) := by rw [← hW1]; exact blk_cell (blk_at _ (by simp [hx0])) rfl
  have rb : W1.heap[x0]? = some (.cells #[.map none, .map none] 68 (0, 0)) := by
    rw [← hW1]
    exact (Below.heap_alloc _ _ _ (by simp [hx0] <;> omega)).trans ((Below.heap_alloc _ _ _ (by simp [hx0] <;> omega)).trans ((Below.heap_alloc _ _ _ (by simp [hx0] <;> omega)).trans (blk_at _ hx0.symm)))
  have d1 : IMap W1 (x0 + 1) 41 (fun _ => none) := by
    have h0 := IMap.made (w.alloc (.cells #[.map none, .map none] 68))
    simp only [World.size_alloc, hx0] at h0
    have h1 := h0.small (H := 41) (fun x hx => by cases hx)
    rw [← hW1]
    exact (h1.below ((Below.refl _ _).alloc (Nat.le_refl _) _) (Nat.le_refl _)).below ((Below.refl _ _).alloc (Nat.le_refl _) _) (Nat.le_refl _)
  have t1 : IMap W1 (x0 + 2) 41 (fun _ => none) := by
    have h0 := IMap.made ((w.alloc (.cells #[.map none, .map none] 68)).alloc (.map #[] 0))
    simp only [World.size_alloc, hx0] at h0
    have h1 := h0.small (H := 41) (fun x hx => by cases hx)
    rw [← hW1]
    exact h1.below ((Below.refl _ _).alloc (Nat.le_refl _) _) (Nat.le_refl _)
  have D1 := hid d1
  have T1 := hid t1
  have RP1 := hid (RecP.empty (D := fun q => q < x0 + 4) (show x0 + 1 ≠ x0 + 2 by omega) d1 t1)
  have LK := (h.below BW1).look 0 (by omega)
  rw [hT] at LK
  obtain ⟨zs, hzs⟩ : ∃ zs, T 0 = zs := ⟨_, rfl⟩
  rw [hzs] at LK
  have HZS := hid hzs
  have ZS := hid (And.intro z0 z1)
  have RB := hid rb
  have SW1 := hid sW1
  have HX0 := hid hx0
  have HBW := hid BW1
  have FIN : Hid (∀ (W : World) (R : Rcs) (c : Int) (D : Nat → Prop), (∀ q, q < x0 + 4 → D q) → Ext (fun q => q = x0 + 1 ∨ q = x0 + 2) W1 W → RecP W D (x0 + 1) (x0 + 2) R → RcsOk R H → ((loadV T H = some R ∧ c = 0) ∨ (loadV T H = none ∧ c = 11)) → ∀ tmps : Array Value, tmps.getD 2 undef = .pointer (some ⟨x0, 0, none⟩) → tmps.getD 3 undef = .int .i64 c →
      bodyPost Tryz.prog Tryz.f49 (LoadAns w T H) Exit.ret ⟨tmps, []⟩ ((W.setCell ⟨x0, 0, none⟩ (.map (some (x0 + 1)))).setCell ⟨x0, 1, none⟩ (.map (some (x0 + 1 + 1))))) := hid fun W R c D hD kW rp ok hc tmps ht2 ht3 => by
    have rbW : W.heap[x0]? = some (.cells #[.map none, .map none] 68 (0, 0)) := kW.blk (by omega) RB.out
    have rb2 : ((W.setCell ⟨x0, 0, none⟩ (.map (some (x0 + 1)))).setCell ⟨x0, 1, none⟩ (.map (some (x0 + 1 + 1)))).heap[x0]? = some (.cells #[.map (some (x0 + 1)), .map (some (x0 + 1 + 1))] 68 (0, 0)) := blk_setCell (blk_setCell rbW _) _
    have XS : Ext (fun q => q = x0) W ((W.setCell ⟨x0, 0, none⟩ (.map (some (x0 + 1)))).setCell ⟨x0, 1, none⟩ (.map (some (x0 + 1 + 1)))) := Ext.set.trans Ext.set (fun i _ h => h)
    have BE : Below w.heap.size w ((W.setCell ⟨x0, 0, none⟩ (.map (some (x0 + 1)))).setCell ⟨x0, 1, none⟩ (.map (some (x0 + 1 + 1)))) := Below.ext (Below.ext HBW.out kW (fun i h => by have := HX0.out; omega) HBW.out.size) XS (fun i h => by have := HX0.out; omega) (Nat.le_trans HBW.out.size kW.size)
    refine bodyPost_ret (results_cell_tmp rfl _ _ x0 _ _ _ _ _ ht2 ht3 rb2 Tryz.underlying68 rfl (by kernel_rfl)) rfl ⟨BE, x0 + 1, x0 + 2, by have := HX0.out; omega, by have := HX0.out; omega, ?_⟩
    rcases hc with ⟨h1, rfl⟩ | ⟨h1, rfl⟩
    · refine .inl ⟨R, h1, rfl, ?_, ok⟩
      have hsz : w.heap.size = x0 := HX0.out
      rw [hsz]
      exact rp.step (F := fun q => q = x0) XS (fun q hq => hD q (by omega)) (by omega) (by omega) (fun q hq => .inl (hD q (by omega)))
    · exact .inr ⟨h1, rfl⟩
  clear h hT hzs d1 t1 rb BW1 sW1
  go_enter Tryz.func49, Tryz.ntmps49
  go_wp2_with fail
  refine LK.mono ?_
  rintro e w2 ⟨za, zc, rfl, oz, z96, zby, B2⟩
  clear LK
  obtain ⟨za', zc', ez, -, zle, zm, zrow, -, -⟩ := row_of_owns oz
  cases ez
  have ZB := hid zby
  have Z96 := hid z96
  have OPY := fun ho => open_yes (some za) zc zs w2 zrow z96 zle (by simp only [maxLen] at zm; omega) zby ho
  have OPN := fun ho => open_no (some za) zc zs w2 zrow z96 zle (by simp only [maxLen] at zm; omega) zby ho
  have HB2 := hid B2
  clear oz zrow zle zm B2 zby z96
  by_cases htr : closed (zs.take 84) = zs
  · have OP := OPY htr
    have HTR := hid (isTrk_yes htr)
    clear OPY OPN htr
    go_wp2_with fail
    refine OP.mono ?_
    rintro e w4 ⟨v4, rfl, o4, B4⟩
    clear OP
    obtain ⟨a4, c4, rfl, -, c4l, c4m, r4, rlt, -⟩ := row_of_owns o4
    have hl84 : (zs.take 84).length = 84 := by have := Z96.out; rw [List.length_take]; omega
    have hr4 := r4.nn (by rw [B8_length, hl84]; decide)
    obtain ⟨ab, ao, rfl⟩ : ∃ ab ao, a4 = some ⟨ab, ao, none⟩ := ⟨_, _, hr4⟩
    have ABL := hid (show x0 + 4 ≤ ab ∧ ab < w4.heap.size by
      have h1 := (rlt (by decide)).1
      have h2 := (rlt (by decide)).2
      have := HB2.out.size
      have := SW1.out
      have h3 : w2.heap.size ≤ ab := h1
      exact ⟨by omega, h2⟩)
    have R4 := hid r4
    have HB4 := hid (HB2.out.trans (B4.mono HB2.out.size))
    have SA4 := hid hl84
    clear o4 B4 r4 hr4 hl84 rlt
    obtain ⟨sm, hsm⟩ : ∃ sm, w4.heap.size = sm := ⟨_, rfl⟩
    have m0 : IMap (w4.alloc (.map #[] 0)) sm 0 (fun _ => none) := by rw [← hsm]; exact IMap.made w4
    have HM0 := hid m0
    have SML := hid (show x0 + 4 ≤ sm by have := HB4.out.size; have := SW1.out; omega)
    have HSM := hid hsm
    clear m0
    go_wp2_with (first | (refine wpList_insert_im rfl _ rfl _ _ _ 116 rfl 4 Tryz.underlying116 sm 0 (fun _ => none) rfl HM0.out (by unfold maxLen; omega) 0 (.bool true) rfl rfl (by omega) ?_) | fail)
    intro w5 M5 G5
    have X5 : Ext (fun q => q = sm) (w4.alloc (.map #[] 0)) w5 := (Ext.of_grown G5).mono (fun i _ h => by have h : some sm = some i := h; simp only [Option.some.injEq] at h; omega)
    have M5' := hid ((M5.small (H := 4200) (fun k hk => by
      by_cases e : k = 0
      · omega
      · rw [if_neg e] at hk; cases hk)).congr (T' := seenM [0]) (fun k => by unfold seenM; by_cases e : k = 0 <;> simp [e]))
    have B5 : Below W1.heap.size W1 w5 := Below.ext (HB4.out.alloc HB4.out.size _) X5 (fun i h => by have := SML.out; have := SW1.out; omega) (by have := HB4.out.size; simp; omega)
    have R5 := hid (((R4.out.alloc (.map #[] 0)).ext X5 (fun _ hf => by
      have h1 := HSM.out
      have h2 : ab = sm := hf
      have h3 := ABL.out.2
      omega)))
    have HB5 := hid B5
    have RP5 := hid ((RecP.empty (D := fun q => q < x0 + 4 ∨ q = sm) (show x0 + 1 ≠ x0 + 2 by omega) (D1.out.below B5 (Nat.le_refl _)) (T1.out.below B5 (Nat.le_refl _))))
    have SM5 := hid (show sm < w5.heap.size by
      have h1 : (w4.alloc (.map #[] 0)).heap.size ≤ w5.heap.size := X5.size
      rw [World.size_alloc] at h1
      have := HSM.out
      omega)
    clear M5 G5 X5 B5 hsm R4
    go_wp2_with fail
    go_loopw [10] (fun u10 wr => ∃ (j : Nat) (R : Rcs) (seen : List Int), u10 = .int .i64 ((j : Int) + 1) ∧ j ≤ 40 ∧ Hid (RecP wr (fun q => q < x0 + 4 ∨ q = sm) (x0 + 1) (x0 + 2) R) ∧ Hid (IMap wr sm 4200 (seenM seen)) ∧ Hid (Ld R H j seen) ∧ Hid (Ext (fun q => q = x0 + 1 ∨ q = x0 + 2 ∨ q = sm) w5 wr) ∧
        Hid (loadFrom T H ids40 [0] noRcs = loadFrom T H (ids40.drop j) seen R)) (fun u10 _ => 42 - (intOf u10).toNat)
    case atStart => exact ⟨0, noRcs, [0], rfl, Nat.zero_le _, RP5, M5', hid (Ld.none H), hid (Ext.refl _ _), hid rfl⟩
    case round =>
      obtain ⟨j, R, seen, rfl, hj, RPK, MK, LDK, XK, HF⟩ := hrel
      have XW1 := hid (show Ext (fun q => q = x0 + 1 ∨ q = x0 + 2) W1 wr from (Ext.of_below HB5.out (fun q => q = x0 + 1 ∨ q = x0 + 2)).trans XK.out (fun i hi h => by have := SW1.out; have := SML.out; omega))
      have BWR := hid (show Below w.heap.size w wr from Below.ext HBW.out XW1.out (fun i h => by have := HX0.out; omega) HBW.out.size)
      have rbr : wr.heap[x0]? = some (.cells #[.map none, .map none] 68 (0, 0)) := XW1.out.blk (by omega) RB.out
      have rc0 := blk_cell (o := 0) (v := .map none) rbr rfl
      have rc1 := blk_cell (o := 1) (v := .map none) rbr rfl
      have fr := fun o => blk_free (o := o) rbr
      have zc0 : wr.cell? ⟨x0 + 3, 0, none⟩ = some (.map (some (x0 + 1))) := XW1.out.cell (by omega) ZS.out.1
      have zc1 : wr.cell? ⟨x0 + 3, 1, none⟩ = some (.map (some (x0 + 1 + 1))) := XW1.out.cell (by omega) ZS.out.2
      have zc0' : wr.cell? ⟨x0 + 1 + 1 + 1, 0, none⟩ = some (.map (some (x0 + 1))) := zc0
      have zc1' : wr.cell? ⟨x0 + 1 + 1 + 1, 1, none⟩ = some (.map (some (x0 + 1 + 1))) := zc1
      clear rbr zc0 zc1
      by_cases hj40 : j < 40
      · have RW := hid (Row.drop (R5.out.ext XK.out (fun _ hf => by
          have h1 := ABL.out
          have h2 := HSM.out
          have h3 : ab = x0 + 1 ∨ ab = x0 + 2 ∨ ab = sm := hf
          omega)) (2 * j))
        have HLD := hid (show ((zs.take 84).drop (2 * j)).length = 84 - 2 * j by rw [List.length_drop, SA4.out])
        have NU := vnumber_any (some ⟨ab, ao + 2 * j, none⟩) (84 - 2 * j) (c4 - 2 * j) ((zs.take 84).drop (2 * j)) wr (by rw [B8, List.map_drop]; exact RW.out) HLD.out (by omega) ((ZB.out.take 84).drop _)
        obtain ⟨nx, hnx⟩ : ∃ nx, n2 ((zs.take 84).drop (2 * j)) 0 = nx := ⟨_, rfl⟩
        have NXB := hid (show 0 ≤ nx ∧ nx < 65536 by
          have h0 := zb_bd ((ZB.out.take 84).drop (2 * j)) 0
          have h1 := zb_bd ((ZB.out.take 84).drop (2 * j)) (0 + 1)
          rw [← hnx]; unfold n2; omega)
        have HNX := hid (show n2 (T 0) (2 * (((j : Int) + 1) - 1)).toNat = nx by
          rw [← hnx, HZS.out, show (2 * (((j : Int) + 1) - 1)).toNat = 2 * j by omega]
          unfold n2 zb
          rw [List.getElem?_drop, List.getElem?_drop, List.getElem?_take, List.getElem?_take, if_pos (by omega), if_pos (by omega)]
          rfl)
        have HFC := hid (show loadFrom T H (ids40.drop j) seen R = if nx = 0 then loadFrom T H (ids40.drop (j + 1)) seen R else match chainV T H ((j : Int) + 1) (H + 1) nx seen with
            | none => none
            | some x => if mayRec x = true then loadFrom T H (ids40.drop (j + 1)) (x.2.reverse ++ seen) (R.put ((j : Int) + 1) x) else none by
          rw [ids40_drop hj40, loadFrom_cons, HNX.out])
        rw [hnx] at NU
        clear hnx
        go_wp2_with fail
        refine NU.mono ?_
        rintro e w6 ⟨rfl, B6⟩
        clear NU
        have HB6 := hid B6
        have X6 := hid (show Ext (fun q => q = x0 + 1 ∨ q = x0 + 2 ∨ q = sm) w5 w6 from XK.out.trans (Ext.of_below B6 (fun _ => False)) (fun i _ h => h.elim))
        have XW6 := hid (show Ext (fun q => q = x0 + 1 ∨ q = x0 + 2) W1 w6 from XW1.out.trans (Ext.of_below B6 (fun _ => False)) (fun i _ h => h.elim))
        have RP6 := hid (RPK.out.below B6 (Nat.le_refl _))
        have M6 := hid (MK.out.below B6 (Nat.le_refl _))
        clear B6 rc0 rc1 fr zc0' zc1'
        by_cases hnx0 : nx = 0
        · have HF1 := hid (show loadFrom T H ids40 [0] noRcs = loadFrom T H (ids40.drop (j + 1)) seen R by rw [HF.out, HFC.out, if_pos hnx0])
          subst hnx0
          go_wp2_with fail
          go_roundw
          case measure => simp [intOf]; omega
          case rel => exact ⟨j + 1, R, seen, by go_num, by omega, RP6, M6, hid LDK.out.skip, X6, HF1⟩
        · have hnxi : (nx == 0) = false := by simpa using hnx0
          have BW6 : Below w.heap.size w w6 := BWR.out.trans (HB6.out.mono BWR.out.size)
          have CH := chain_any HH.out BW6 sm (by have := SML.out; have := HX0.out; omega) seen M6.out LDK.out.s ((j : Int) + 1) nx (by omega) NXB.out
          rw [HT.out] at CH
          have S6 := hid (show w.heap.size ≤ w6.heap.size from BW6.size)
          have SZ6 := hid (show x0 + 4 ≤ w6.heap.size ∧ sm < w6.heap.size by have := XW6.out.size; have := SW1.out; have := X6.out.size; have := SM5.out; omega)
          clear BW6
          go_wp2_with fail
          refine CH.mono ?_
          rintro e w7 ⟨X7', ⟨v, u, rfl, hno⟩ | ⟨x, v, u, rfl, hc, hm, o1, hb, o2, hr, hd, hs, M7⟩⟩
          · have X7 := hid X7'
            have XW7 := hid (show Ext (fun q => q = x0 + 1 ∨ q = x0 + 2) W1 w7 from XW6.out.trans X7.out (fun i hi h => by have := SML.out; have := SW1.out; omega))
            have HNO := hid (show loadV T H = none by
              unfold loadV
              rw [HZS.out, HTR.out, if_pos rfl, HF.out, HFC.out, if_neg hnx0]
              cases hcv : chainV T H ((j : Int) + 1) (H + 1) nx seen with
              | none => rfl
              | some x => simp only; rw [hno x hcv]; rfl)
            have RP7 := hid (RP6.out.step X7.out (fun q hq => .inr hq) (by have := SML.out; omega) (by have := SML.out; omega) (fun q hq => .inl hq))
            have rbr : w7.heap[x0]? = some (.cells #[.map none, .map none] 68 (0, 0)) := XW7.out.blk (by omega) RB.out
            have rc0 := blk_cell (o := 0) (v := .map none) rbr rfl
            have rc1 := blk_cell (o := 1) (v := .map none) rbr rfl
            have fr := fun o => blk_free (o := o) rbr
            have zc0' : w7.cell? ⟨x0 + 1 + 1 + 1, 0, none⟩ = some (.map (some (x0 + 1))) := XW7.out.cell (by omega) ZS.out.1
            have zc1' : w7.cell? ⟨x0 + 1 + 1 + 1, 1, none⟩ = some (.map (some (x0 + 1 + 1))) := XW7.out.cell (by omega) ZS.out.2
            clear CH hno rbr X7'
            go_wp2_with fail
            exact FIN.out _ R 11 _ (fun q hq => .inl hq) XW7.out RP7.out LDK.out.ok (.inr ⟨HNO.out, rfl⟩) _ rfl rfl
          · have X7 := hid X7'
            have XW7 := hid (show Ext (fun q => q = x0 + 1 ∨ q = x0 + 2) W1 w7 from XW6.out.trans X7.out (fun i hi h => by have := SML.out; have := SW1.out; omega))
            have X57 := hid (show Ext (fun q => q = x0 + 1 ∨ q = x0 + 2 ∨ q = sm) w5 w7 from X6.out.trans X7.out (fun i _ h => .inr (.inr h)))
            have RP7 := hid (RP6.out.step X7.out (fun q hq => .inr hq) (by have := SML.out; omega) (by have := SML.out; omega) (fun q hq => .inl hq))
            have H1 := hid (show Hld w7 (fun q => q < x0 + 4 ∨ q = sm) v (B8 x.1) from Hld.of_owns o1 (fun q h1 h2 h => by have := SZ6.out; omega))
            have H2 := hid (show Hld w7 (fun q => q < x0 + 4 ∨ q = sm) u (I8 x.2) from Hld.of_owns o2 (fun q h1 h2 h => by have := SZ6.out; omega))
            have LD1 := hid (LDK.out.put hj40 hHl hm hb hr hd hs)
            have HF1 := hid (show loadFrom T H ids40 [0] noRcs = loadFrom T H (ids40.drop (j + 1)) (x.2.reverse ++ seen) (R.put ((j : Int) + 1) x) by
              rw [HF.out, HFC.out, if_neg hnx0, hc]
              simp only
              rw [if_pos hm])
            have M7' := hid M7
            have zc0' : w7.cell? ⟨x0 + 1 + 1 + 1, 0, none⟩ = some (.map (some (x0 + 1))) := XW7.out.cell (by omega) ZS.out.1
            have zc1' : w7.cell? ⟨x0 + 1 + 1 + 1, 1, none⟩ = some (.map (some (x0 + 1 + 1))) := XW7.out.cell (by omega) ZS.out.2
            obtain ⟨V, U, hv7, hu7, hx7⟩ := RP7.out.out
            have HV7 := hid hv7
            have HU7 := hid hu7
            have HX7 := hid hx7
            have SB : ∀ W, Ext (fun q => q = x0 + 1 ∨ q = x0 + 2) w7 W → W.cell? ⟨x0 + 1 + 1 + 1, 0, none⟩ = some (.map (some (x0 + 1))) ∧ W.cell? ⟨x0 + 1 + 1 + 1, 1, none⟩ = some (.map (some (x0 + 1 + 1))) := fun W k => ⟨k.cell (by omega) zc0', k.cell (by omega) zc1'⟩
            have KV := hid (show ∀ k, ((fun k => if k = (j : Int) + 1 then some v else V k) k).isSome → 0 ≤ k ∧ k < (41 : Nat) from fun k hk => by
              simp only at hk
              by_cases e : k = (j : Int) + 1
              · omega
              · rw [if_neg e] at hk
                rcases HX7.out k with ⟨-, e2, -⟩ | ⟨b, l, _, _, e1, -⟩
                · rw [e2] at hk; cases hk
                · have := LDK.out.ok.id k _ e1; omega)
            have KU := hid (show ∀ k, ((fun k => if k = (j : Int) + 1 then some u else U k) k).isSome → 0 ≤ k ∧ k < (41 : Nat) from fun k hk => by
              simp only at hk
              by_cases e : k = (j : Int) + 1
              · omega
              · rw [if_neg e] at hk
                rcases HX7.out k with ⟨-, -, e2⟩ | ⟨b, l, _, _, e1, -⟩
                · rw [e2] at hk; cases hk
                · have := LDK.out.ok.id k _ e1; omega)
            clear hv7 hu7 hx7 o1 o2 hc hm hb hr hd hs M7 CH X7' zc0' zc1'
            go_wp2_with fail
            refine wp_region_held_drew (S := fun W => W.cell? ⟨x0 + 1 + 1 + 1, 0, none⟩ = some (.map (some (x0 + 1))) ∧ W.cell? ⟨x0 + 1 + 1 + 1, 1, none⟩ = some (.map (some (x0 + 1 + 1)))) (by kernel_rfl) (SB _ (((Ext.refl (fun q => q = x0 + 1 ∨ q = x0 + 2) w7).drew))) (fun hHeld => ?_)
            refine wpAnyH_take (i := 0) (v := ?v1) (by simp only [List.getElem?_toArray, List.getElem?_cons_zero]; rfl) (by kernel_rfl) (by kernel_rfl) (by kernel_rfl) (by exact fun _ _ _ h => h) (Or.inl ⟨by rfl, ?h1⟩) (by assumption) ?r1
            case h1 => (intro w hSw; (try dsimp only at hSw); go_simp; try with_reducible rfl)
            try simp only [Act.put, List.setIfInBounds_toArray, List.set_cons_zero, List.set_cons_succ]
            refine wpAnyH_take (i := 1) (v := ?v2) (by simp only [List.getElem?_toArray, List.getElem?_cons_zero, List.getElem?_cons_succ]; rfl) (by kernel_rfl) (by kernel_rfl) (by kernel_rfl) (by exact fun _ _ _ h => h) (Or.inl ⟨by rfl, ?h2⟩) (by assumption) ?r2
            case h2 => (intro w hSw; (try dsimp only at hSw); go_simp; try with_reducible rfl)
            try simp only [Act.put, List.setIfInBounds_toArray, List.set_cons_zero, List.set_cons_succ]
            refine wpAnyH_take (i := 2) (v := ?v3) (by simp only [List.getElem?_toArray, List.getElem?_cons_zero, List.getElem?_cons_succ]; rfl) (by kernel_rfl) (by kernel_rfl) (by kernel_rfl) (by exact fun _ _ _ h => h) (Or.inl ⟨by rfl, ?h3⟩) (by assumption) ?r3
            case h3 => (intro w hSw; (try dsimp only at hSw); go_simp; try with_reducible rfl)
            try simp only [Act.put, List.setIfInBounds_toArray, List.set_cons_zero, List.set_cons_succ]
            refine wpAnyH_take (i := 3) (v := ?v4) (by simp only [List.getElem?_toArray, List.getElem?_cons_zero, List.getElem?_cons_succ]; rfl) (by kernel_rfl) (by kernel_rfl) (by kernel_rfl) (by exact fun _ _ _ h => h) (Or.inl ⟨by rfl, ?h4⟩) (by assumption) ?r4
            case h4 => (intro w hSw; (try dsimp only at hSw); go_simp; try with_reducible rfl)
            try simp only [Act.put, List.setIfInBounds_toArray, List.set_cons_zero, List.set_cons_succ]
            refine wpAnyH_take (i := 4) (v := ?v5) (by simp only [List.getElem?_toArray, List.getElem?_cons_zero, List.getElem?_cons_succ]; rfl) (by kernel_rfl) (by kernel_rfl) (by kernel_rfl) (by exact fun _ _ _ h => h) (Or.inl ⟨by rfl, ?h5⟩) (by assumption) ?r5
            case h5 => (intro w hSw; (try dsimp only at hSw); go_simp; try with_reducible rfl)
            try simp only [Act.put, List.setIfInBounds_toArray, List.set_cons_zero, List.set_cons_succ]
            refine wpAnyH_take (i := 5) (v := ?v6) (by simp only [List.getElem?_toArray, List.getElem?_cons_zero, List.getElem?_cons_succ]; rfl) (by kernel_rfl) (by kernel_rfl) (by kernel_rfl) (by exact fun _ _ _ h => h) (Or.inl ⟨by rfl, ?h6⟩) (by assumption) ?r6
            case h6 => (intro w hSw; (try dsimp only at hSw); go_simp; try with_reducible rfl)
            try simp only [Act.put, List.setIfInBounds_toArray, List.set_cons_zero, List.set_cons_succ]
            refine wpAnyH_take (i := 6) (v := ?v7) (by simp only [List.getElem?_toArray, List.getElem?_cons_zero, List.getElem?_cons_succ]; rfl) (by kernel_rfl) (by kernel_rfl) (by kernel_rfl) (by exact fun _ _ _ h => h) (Or.inl ⟨by rfl, ?h7⟩) (by assumption) ?r7
            case h7 => (intro w hSw; (try dsimp only at hSw); go_simp; try with_reducible rfl)
            try simp only [Act.put, List.setIfInBounds_toArray, List.set_cons_zero, List.set_cons_succ]
            refine wpAnyH_take (i := 7) (v := ?v8) (by simp only [List.getElem?_toArray, List.getElem?_cons_zero, List.getElem?_cons_succ]; rfl) (by kernel_rfl) (by kernel_rfl) (by kernel_rfl) (by exact fun _ _ _ h => h) (Or.inl ⟨by rfl, ?h8⟩) (by assumption) ?r8
            case h8 => (intro w hSw; (try dsimp only at hSw); go_simp; try with_reducible rfl)
            try simp only [Act.put, List.setIfInBounds_toArray, List.set_cons_zero, List.set_cons_succ]
            refine wpAnyH_ready (rs := [8]) (by kernel_rfl) (by simp) ?_
            refine (AllReadyH.cons (by simp only [List.getElem?_toArray, List.getElem?_cons_zero, List.getElem?_cons_succ]; rfl) (fun K hK => ?_) AllReadyH.nil)
            refine step_mapUpdate_im rfl (by rfl) _ _ _ _ (by rfl) 27 Tryz.underlying65 (x0 + 1) 41 (V) (by rfl) (HV7.out.ext ((Ext.refl (fun _ => False) w7).drew) id) (by unfold maxLen; omega) ((j : Int) + 1) v (by rfl) (by rfl) (by omega) ?_
            intro wm9 IM9 GM9
            have XM9 : Ext (fun q => q = x0 + 1 ∨ q = x0 + 2) w7 wm9 := (((Ext.refl (fun q => q = x0 + 1 ∨ q = x0 + 2) w7).drew)).trans (Ext.of_grown GM9) (fun i _ h => by have h : some (x0 + 1) = some i := h; simp only [Option.some.injEq] at h; omega)
            refine hK.out _ _ (SB _ XM9) (fun hH10 => ?_)
            clear hK
            try simp only [Act.put, List.setIfInBounds_toArray, List.set_cons_zero, List.set_cons_succ]
            refine wpAnyH_ready (rs := [9]) (by kernel_rfl) (by simp) ?_
            refine (AllReadyH.cons (by simp only [List.getElem?_toArray, List.getElem?_cons_zero, List.getElem?_cons_succ]; rfl) (fun K hK => ?_) AllReadyH.nil)
            refine step_mapUpdate_im rfl (by rfl) _ _ _ _ (by rfl) 33 Tryz.underlying66 (x0 + 1 + 1) 41 (U) (by rfl) ((HU7.out.ext ((Ext.refl (fun _ => False) w7).drew) id).ext (Ext.of_grown GM9) (by intro h; have h : some (x0 + 1) = some (x0 + 2) := h; simp only [Option.some.injEq] at h; omega)) (by unfold maxLen; omega) ((j : Int) + 1) u (by rfl) (by rfl) (by omega) ?_
            intro wm11 IM11 GM11
            have XM11 : Ext (fun q => q = x0 + 1 ∨ q = x0 + 2) w7 wm11 := (XM9).trans (Ext.of_grown GM11) (fun i _ h => by have h : some (x0 + 1 + 1) = some i := h; simp only [Option.some.injEq] at h; omega)
            refine hK.out _ _ (SB _ XM11) (fun hH12 => ?_)
            clear hK
            try simp only [Act.put, List.setIfInBounds_toArray, List.set_cons_zero, List.set_cons_succ]
            refine wpAnyH_done (by kernel_rfl) ?_ _
            have DF := hid ((IM9.small (H := 41) (fun k hk => KV.out k hk)).ext (Ext.of_grown GM11) (by intro h; have h : some (x0 + 1 + 1) = some (x0 + 1) := h; simp only [Option.some.injEq] at h; omega))
            have TF := hid (IM11.small (H := 41) (fun k hk => KU.out k hk))
            have XF := hid XM11
            have M8 := hid (M7'.out.ext XM11 (by have := SML.out; omega))
            have X58 := hid (X57.out.trans XF.out (fun i _ h => by omega))
            have RP8 := hid (show RecP wm11 (fun q => q < x0 + 4 ∨ q = sm) (x0 + 1) (x0 + 2) (R.put ((j : Int) + 1) x) from ⟨by omega, _, _, DF.out, TF.out, fun y => by
              by_cases ey : y = (j : Int) + 1
              · subst ey
                refine .inr ⟨x.1, x.2, v, u, by unfold Rcs.put; rw [if_pos rfl], by simp, by simp, ?_, ?_⟩
                · exact H1.out.step XF.out (fun q hq => .inl (by omega)) (fun q hq => .inl hq)
                · exact H2.out.step XF.out (fun q hq => .inl (by omega)) (fun q hq => .inl hq)
              · rcases HX7.out y with ⟨h1, h2, h3⟩ | ⟨b, l, v', u', h1, h2, h3, h4, h5⟩
                · exact .inl ⟨by unfold Rcs.put; rw [if_neg ey]; exact h1, by simp only [if_neg ey]; exact h2, by simp only [if_neg ey]; exact h3⟩
                · exact .inr ⟨b, l, v', u', by unfold Rcs.put; rw [if_neg ey]; exact h1, by simp only [if_neg ey]; exact h2, by simp only [if_neg ey]; exact h3, h4.step XF.out (fun q hq => .inl (by omega)) (fun q hq => .inl hq), h5.step XF.out (fun q hq => .inl (by omega)) (fun q hq => .inl hq)⟩⟩)
            clear IM9 IM11 GM9 GM11
            go_wp2_with fail
            go_roundw
            case measure => simp [intOf]; omega
            case rel => exact ⟨j + 1, R.put ((j : Int) + 1) x, _, by go_num, by omega, RP8, M8, LD1, X58, HF1⟩
      · obtain rfl : j = 40 := by omega
        have HLF := hid (show loadFrom T H ids40 [0] noRcs = some R by rw [HF.out]; rfl)
        have LO := laidOut_any RPK.out LDK.out.ok hHl
        have OKR := hid LDK.out.ok
        clear HF LDK MK
        go_wp2_with fail
        refine LO.mono ?_
        rintro e w8 ⟨g, rfl, hg, LA, B8'⟩
        clear LO
        obtain ⟨Z, hz1, hz2⟩ := LA.out
        have HZ1 := hid hz1
        have HZ2 := hid hz2
        have B8H := hid B8'
        have XW8 := hid (show Ext (fun q => q = x0 + 1 ∨ q = x0 + 2) W1 w8 from XW1.out.trans (Ext.of_below B8' (fun _ => False)) (fun i _ h => h.elim))
        have RP8 := hid (RPK.out.below B8' (Nat.le_refl _))
        obtain ⟨r, hr⟩ : ∃ r, w8.heap.size = r := ⟨_, rfl⟩
        clear LA hz1 hz2 B8' rc0 rc1 fr zc0' zc1'
        go_wp2_with (first | (at_range; refine wpList_range_im rfl _ rfl _ _ rfl 27 Tryz.underlying65 g 4200 Z rfl HZ1.out ?_) | fail)
        intro w9 cnt RG B9 hs9
        have HRR := hid hr
        have HB9 := hid (show Below w8.heap.size w8 w9 by rw [hr]; exact B9)
        clear B9 hs9 hr
        go_wp2_with fail
        go_loopw [15] (fun _ wr2 => ∃ (cnt : Nat) (left : Int → Bool), IRng wr2 g r 4200 Z left cnt ∧ Hid (∀ k z, laidT R k = some z → left k = false → T k = z) ∧ Hid (Below w8.heap.size w8 wr2)) (fun _ wr2 => wr2.rangeLeft g r)
        case atStart => exact ⟨_, _, RG, hid (fun k z hk hl => by
          rcases HZ2.out k with ⟨-, e⟩ | ⟨v, z', e, -⟩
          · rw [e] at hk; cases hk
          · simp [e] at hl), HB9⟩
        case round =>
          obtain ⟨wo, rfl⟩ : ∃ w', w' = wr := ⟨_, rfl⟩
          obtain ⟨cnt2, left, RGk, HLF2, BK⟩ := hrel
          have XWK := hid (show Ext (fun q => q = x0 + 1 ∨ q = x0 + 2) W1 wo from XW8.out.trans (Ext.of_below BK.out (fun _ => False)) (fun i _ h => h.elim))
          have RPO := hid (RP8.out.below BK.out (Nat.le_refl _))
          have hrS : w8.heap.size ≤ r := Nat.le_of_eq HRR.out
          go_wp2_with (first | (at_next; refine wpList_next_im rfl _ rfl _ rfl g r 4200 Z left cnt2 rfl RGk ?_ ?_) | fail)
          · intro hl
            have HAG := hid (show loadV T H = some R by
              unfold loadV
              rw [HZS.out, HTR.out, if_pos rfl, HLF.out]
              simp only
              rw [if_pos]
              unfold agrees
              rw [List.all_eq_true]
              intro k _
              cases h : laidT R (k : Int) with
              | none => rfl
              | some z => simp only; exact decide_eq_true (HLF2.out _ _ h (hl _)))
            have rbr : wo.heap[x0]? = some (.cells #[.map none, .map none] 68 (0, 0)) := XWK.out.blk (by omega) RB.out
            have rc0 := blk_cell (o := 0) (v := .map none) rbr rfl
            have rc1 := blk_cell (o := 1) (v := .map none) rbr rfl
            have fr := fun o => blk_free (o := o) rbr
            have zc0' : wo.cell? ⟨x0 + 1 + 1 + 1, 0, none⟩ = some (.map (some (x0 + 1))) := XWK.out.cell (by omega) ZS.out.1
            have zc1' : wo.cell? ⟨x0 + 1 + 1 + 1, 1, none⟩ = some (.map (some (x0 + 1 + 1))) := XWK.out.cell (by omega) ZS.out.2
            clear rbr hl RGk
            go_wp2_with fail
            exact FIN.out _ R 0 _ (fun q hq => .inl hq) XWK.out RPO.out OKR.out (.inl ⟨HAG.out, rfl⟩) _ rfl rfl
          · intro x v w10 cnt3 hT hleft hx1 hx2 RG3 hlt X3 hen
            have L3 := hid (show w10.rangeLeft g r < wo.rangeLeft g r by rw [RG3.left_eq, RGk.left_eq]; exact hlt)
            have B10 := hid (show Below w8.heap.size w8 w10 from Below.ext BK.out X3 (fun i h => by omega) BK.out.size)
            obtain ⟨z, ez, hz, z96, zby⟩ : ∃ z, laidT R x = some z ∧ Hld w8 (fun q => q < wr.heap.size ∨ q = g) v (B8 z) ∧ z.length = 96 ∧ IsBytes z := by
              rcases HZ2.out x with ⟨e, -⟩ | ⟨v', z, e1, e2, e3⟩
              · rw [e] at hT; cases hT
              · rw [e1] at hT
                cases hT
                refine ⟨z, e2, e3.1, ?_⟩
                rcases laidT_some OKR.out e2 with ⟨-, rfl⟩ | ⟨i, y, hy, q, hq, -, rfl⟩
                · exact ⟨closed_length (by rw [listB_length]; decide), closed_bytes (listU_bytes R 40)⟩
                · have hb := OKR.out.b i y hy
                  have hp := partLen y.1 q
                  refine ⟨closed_length (by rw [recB_length]; omega), closed_bytes ?_⟩
                  have hi := OKR.out.id i y hy
                  unfold recB
                  refine ((lay2_bytes _).append ?_).append ((hb.2.drop _).take _)
                  intro a ha
                  simp only [List.mem_cons, List.mem_nil_iff, or_false] at ha
                  rcases ha with rfl | rfl <;> omega
            have hxH : 0 ≤ x ∧ x < (H : Int) := by
              rcases laidT_some OKR.out ez with ⟨rfl, -⟩ | ⟨i, y, hy, q, hq, rfl, -⟩
              · omega
              · have := OKR.out.tr i y hy _ (List.getElem_mem hq); omega
            obtain ⟨va, vc, ev, vrow, vle, vm, -, -⟩ := hz.out
            rw [B8_length, z96] at ev vle
            subst ev
            have VROW := hid (vrow.below B10.out (Nat.le_refl _))
            have HEZ := hid ez
            have HZB := hid zby
            have HZ96 := hid z96
            have HXH := hid hxH
            have HRG := hid RG3
            have LK2 := (HH.out.below (show Below w.heap.size w w10 from Below.ext HBW.out (show Ext (fun q => q = x0 + 1 ∨ q = x0 + 2) W1 w10 from XWK.out.trans X3 (fun i hi h => by have h1 := XW8.out.size; omega)) (fun i h => by have := HX0.out; omega) HBW.out.size)).look x hxH
            rw [HT.out] at LK2
            clear hT hleft hlt X3 RG3 RGk ez hz z96 zby vrow vle vm hxH
            go_wp2_with fail
            refine LK2.mono ?_
            rintro e w11 ⟨ta, tc, rfl, ot, t96, tby, B11⟩
            clear LK2
            obtain ⟨ta', tc', et, -, tle, tm, trow, -, -⟩ := row_of_owns ot
            cases et
            have B11H := hid (B10.out.trans (B11.mono B10.out.size))
            have EQ := equalB_any (some ta) va 96 96 tc vc (T x) z w11 trow (VROW.out.below B11 (Nat.le_refl _)) t96 HZ96.out (by decide) tby HZB.out
            have RG11 := hid (HRG.out.below B11 (Nat.le_refl _))
            have RGL := hid (show w11.rangeLeft g r = w10.rangeLeft g r by rw [RG11.out.left_eq, HRG.out.left_eq])
            clear ot t96 tby tle tm trow B11
            by_cases heq : T x = z
            · rw [decide_eq_true heq] at EQ
              have HEQ := hid heq
              clear heq
              go_wp2_with fail
              refine EQ.mono ?_
              rintro e w12 ⟨rfl, nq, rfl⟩
              clear EQ
              have RG12 := hid (RG11.out.ext ((Ext.refl (fun _ => False) w11).drewN nq) id id)
              go_wp2_with fail
              go_roundw
              case measure => rw [RG12.out.left_eq, ← RG11.out.left_eq, RGL.out]; exact L3.out
              case rel =>
                refine ⟨cnt3, _, RG12.out, hid (fun k z' hk hl => ?_), hid (Below.drewN B11H.out nq)⟩
                by_cases e : k = x
                · subst e
                  rw [HEZ.out] at hk
                  cases hk
                  exact HEQ.out
                · exact HLF2.out k z' hk (by simpa [e] using hl)
            · rw [decide_eq_false heq] at EQ
              have HNO := hid (show loadV T H = none by
                unfold loadV
                rw [HZS.out, HTR.out, if_pos rfl, HLF.out]
                simp only
                rw [if_neg]
                unfold agrees
                rw [List.all_eq_true]
                intro h
                have h1 := h x.toNat (List.mem_range.2 (by have := HXH.out; omega))
                rw [show ((x.toNat : Nat) : Int) = x by have := HXH.out; omega, HEZ.out] at h1
                exact heq (of_decide_eq_true h1))
              clear heq
              go_wp2_with fail
              refine EQ.mono ?_
              rintro e w12 ⟨rfl, nq, rfl⟩
              clear EQ
              have B12 := hid (Below.drewN B11H.out nq)
              have XW12 := hid (show Ext (fun q => q = x0 + 1 ∨ q = x0 + 2) W1 (w11.drewN nq) from XW8.out.trans (Ext.of_below B12.out (fun _ => False)) (fun i _ h => h.elim))
              have RP12 := hid (RP8.out.below B12.out (Nat.le_refl _))
              obtain ⟨w12, hw12⟩ : ∃ w', w11.drewN nq = w' := ⟨_, rfl⟩
              rw [hw12] at XW12 RP12 ⊢
              have rbr : w12.heap[x0]? = some (.cells #[.map none, .map none] 68 (0, 0)) := XW12.out.blk (by omega) RB.out
              have rc0 := blk_cell (o := 0) (v := .map none) rbr rfl
              have rc1 := blk_cell (o := 1) (v := .map none) rbr rfl
              have fr := fun o => blk_free (o := o) rbr
              have zc0' : w12.cell? ⟨x0 + 1 + 1 + 1, 0, none⟩ = some (.map (some (x0 + 1))) := XW12.out.cell (by omega) ZS.out.1
              have zc1' : w12.cell? ⟨x0 + 1 + 1 + 1, 1, none⟩ = some (.map (some (x0 + 1 + 1))) := XW12.out.cell (by omega) ZS.out.2
              clear rbr hw12
              go_wp2_with fail
              exact FIN.out _ R 11 _ (fun q hq => .inl hq) XW12.out RP12.out OKR.out (.inr ⟨HNO.out, rfl⟩) _ rfl rfl
  · have OP := OPN htr
    have HNO := hid (show loadV T H = none by unfold loadV; rw [HZS.out, isTrk_no htr]; rfl)
    clear OPY OPN htr
    go_wp2_with fail
    refine OP.mono ?_
    rintro e w4 ⟨rfl, B4⟩
    clear OP
    have HB4 := hid (HB2.out.trans (B4.mono HB2.out.size))
    have X4 := hid (Ext.of_below HB4.out (fun q => q = x0 + 1 ∨ q = x0 + 2))
    have rbr : w4.heap[x0]? = some (.cells #[.map none, .map none] 68 (0, 0)) := X4.out.blk (by omega) RB.out
    have rc0 := blk_cell (o := 0) (v := .map none) rbr rfl
    have rc1 := blk_cell (o := 1) (v := .map none) rbr rfl
    have fr := fun o => blk_free (o := o) rbr
    have zc0' : w4.cell? ⟨x0 + 1 + 1 + 1, 0, none⟩ = some (.map (some (x0 + 1))) := X4.out.cell (by omega) ZS.out.1
    have zc1' : w4.cell? ⟨x0 + 1 + 1 + 1, 1, none⟩ = some (.map (some (x0 + 1 + 1))) := X4.out.cell (by omega) ZS.out.2
    clear rbr
    go_wp2_with fail
    exact FIN.out _ noRcs 11 _ (fun q hq => hq) X4.out (RP1.out.below HB4.out (Nat.le_refl _)) (RcsOk.none H) (.inr ⟨HNO.out, rfl⟩) _ rfl rfl

end Go.Proofs.YtleoelhhndeheaaGreat
