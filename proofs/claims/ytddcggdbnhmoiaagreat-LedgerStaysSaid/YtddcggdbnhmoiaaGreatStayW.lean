/- LedgerStays: the walk -/
import Derived.Test.YtddcggdbnhmoiaaGreatStayM
open Go Go.RowKit
namespace Go.Proofs.YtddcggdbnhmoiaaGreat

theorem szAct : (Tryz.prog.info? 38).map (·.size) = some 6 := by kernel_rfl
theorem stepped {w w' : World} {M M' : Dom} {B B' : Nat → Prop} {wb : Nat} {o : Obj} (h : w.heap[wb]? = some o) (hN : ∀ q, M q ∨ B q → q ≠ wb) (k : LStep M B w M' B' w') : w'.heap[wb]? = some o ∧ ∀ q, M' q ∨ B' q → q ≠ wb := by
  have hl := lt_of_blk h
  refine ⟨(k.ext.block wb hl (fun hf => hN wb hf rfl)).trans h, fun q hq e => ?_⟩
  subst e
  rcases hq with hq | hq
  · exact (k.new q hq).elim (fun h2 => hN q (.inl h2) rfl) (fun h2 => by omega)
  · exact (k.newB q hq).elim (fun h2 => hN q (.inr h2) rfl) (fun h2 => by omega)
theorem putL_mem {k : Int} {z : List Int} : ∀ {el : List Ent} {t : Tkn}, putL t el k = some z → t k = some z ∨ ∃ x, x ∈ el ∧ x.2 = z
  | [], t, h => .inl h
  | x :: el, t, h => by
    have h : putL (putE t x) el k = some z := h
    rcases putL_mem h with h | ⟨y, h1, h2⟩
    · unfold putE at h
      split at h
      · exact .inr ⟨x, List.mem_cons_self .., Option.some.inj h⟩
      · exact .inl h
    · exact .inr ⟨y, List.mem_cons_of_mem _ h1, h2⟩
theorem over_wf {el : List Ent} (h : ∀ x ∈ el, x.2.length = 96 ∧ IsBytes x.2) {y : List Int} (hy : y.length = 96 ∧ IsBytes y) (k : Nat) : (over el k y).length = 96 ∧ IsBytes (over el k y) := by
  unfold over
  cases hp : putL (fun _ => none) el k with
  | none => exact hy
  | some z =>
    rcases putL_mem hp with h1 | ⟨x, h1, h2⟩
    · cases h1
    · subst h2; exact h x h1
theorem Sta.wf {w : World} {M : Dom} {B : Nat → Prop} {d l mb n : Nat} {lv : Int} {N : Nat} {A : (Nat → List Int) → Prop} {V : Nat → List Int} {s : DS} {L : LS} (h : Sta w M B d l mb n lv N A V s L) {k : Nat} (hk : k < homes n lv) : (V k).length = 96 ∧ IsBytes (V k) := by
  obtain ⟨u, P, p0, a⟩ := h.alv
  have hl := a.f.g.ok.l
  have hun := a.m.n
  have hn := h.n
  have hlv := h.leaves
  unfold homes at hk
  rw [← a.now k (by omega)]
  exact view_wf a.f.g.ok a.f.g.wf (by unfold LS.H; omega)
/-- one of these texts -/
def At (H : Nat) (T : List (Nat → List Int)) (V : Nat → List Int) : Prop := ∃ V0, V0 ∈ T ∧ textN H V = textN H V0
theorem Sta.lt {w : World} {M : Dom} {B : Nat → Prop} {d l mb n : Nat} {lv : Int} {N : Nat} {A : (Nat → List Int) → Prop} {V : Nat → List Int} {s : DS} {L : LS} (h : Sta w M B d l mb n lv N A V s L) : ∀ q, M.M q ∨ B q → q < w.heap.size := fun q hq => by
  obtain ⟨pd, -, D⟩ := h.sys.drum
  rcases hq with hq | hq
  · exact D.ml q hq
  · exact h.sys.led.bs q hq

set_option maxRecDepth 100000 in
set_option maxHeartbeats 8000000 in
theorem ledgerStays_any (lv : Int) (a : Option Addr) (len cap : Nat) (X : Nat → ActV) (w : World) (hl : -9223372036854775808 ≤ lv ∧ lv ≤ 9223372036854775807) (hX : ActsAt w a len X) :
    Calls Tryz.prog 4 #[.int .i64 lv, .slice a len cap] w fun e w' => e = .returned (.bool true) ∧ Below w.heap.size w w' := by
  obtain ⟨i0, hi0, hz0, hz1, hz2⟩ := info_parts iTxt
  have HX := hid hX
  clear hX
  go_enter Tryz.func4, Tryz.ntmps4
  go_wp2_with fail
  refine (known5_any w).mono ?_
  rintro e w1 ⟨rfl, B1⟩
  go_wp2_with fail
  refine (pick_any lv 10 w1 hl (by omega) (by omega)).mono ?_
  rintro e w2 ⟨rfl, rfl⟩
  obtain ⟨x, hx, hxl⟩ : ∃ x : Nat, lv % 10 = x ∧ x < 10 := ⟨(lv % 10).toNat, by omega, by omega⟩
  rw [hx]
  clear hx
  have FO := found5x_any (x + 17) (5 + (x : Int)) w1 (by omega) (by omega) (by unfold mayC; simp; omega)
  rw [show ((x + 17 : Nat) : Int) = 5 + (x : Int) + 12 by omega] at FO
  have hH : homes (x + 17) (5 + (x : Int)) = 10 := by unfold homes; omega
  go_wp2_with fail
  refine FO.mono ?_
  rintro e w2 ⟨M, B, d, l, mb, s, L, rfl, LX, SI'⟩
  have LV := hid LX
  have SI := hid SI'
  clear FO LX SI'
  go_wp2_with fail
  refine (known5_any w2).mono ?_
  rintro e w3 ⟨rfl, B3⟩
  have SI3 := hid (SI.out.to B3)
  have LV3 := hid (LV.out.live.below B3)
  have ST3 : Hid (Sta w3 M B d l mb (x + 17) (5 + (x : Int)) 0 (At 10 [fun _ => zeros96]) (fun _ => zeros96) s L) := hid ((LV.out.sta (by omega) ⟨_, List.mem_singleton.2 rfl, rfl⟩).below B3)
  clear SI LV B3
  have HS := homeS_any LV3.out (by omega) (by omega)
  rw [hH] at HS
  go_wp2_with fail
  refine HS.mono ?_
  rintro e w4 ⟨rfl, LV4, T4⟩
  have SI4 := hid (SI3.out.lstep T4)
  have ST4 : Hid (Sta w4 M B d l mb (x + 17) (5 + (x : Int)) 0 (At 10 [fun _ => zeros96]) (fun _ => zeros96) s L) := hid ⟨LV4.sys, ST3.out.alv, ST3.out.a0, ST3.out.n, ST3.out.leaves, ST3.out.up, ST3.out.round, ST3.out.last⟩
  clear HS LV4 T4 SI3 LV3 ST3
  obtain ⟨tz, htz⟩ : ∃ tz, strOfNums (textN 10 fun _ => zeros96) = tz := ⟨_, rfl⟩
  rw [htz]
  have MA4 : Hid (MayAt w1.heap.size (w4.alloc (.cells #[.string tz] 9)) (M.addX fun q => q = w4.heap.size) B (.slice (some ⟨w4.heap.size, 0, none⟩) 1 1) 10 [fun _ => zeros96]) := hid (by rw [← htz]; exact MayAt.one ST4.out.lt SI4.out.below.size)
  have kA := (Below.refl w4.heap.size w4).alloc (Nat.le_refl _) (.cells #[.string tz] 9)
  have ST5 := hid (ST4.out.otherG (F := fun _ => False) (G := fun q => q = w4.heap.size) (Ext.of_below kA _) (fun _ h => h.elim) (fun _ h => h.elim) (fun q hq => by subst hq; exact ⟨Nat.le_refl _, by simp⟩))
  have SI5 : Hid (Since w1 (w4.alloc (.cells #[.string tz] 9)) (M.addX fun q => q = w4.heap.size) B) := hid ⟨(SI4.out.to kA).below, SI4.out.new⟩
  have HTZ := hid htz
  clear kA SI4 ST4 htz
  have hixA : ∀ (i : Nat), i < len → ∀ W', (Instr.indexAt 22 (.slice a len cap) (.int .i64 i)).run Tryz.prog W' = .ok (.pointer (some ⟨sB a, sO a + i * 6, none⟩)) W' := fun i hi W' => idx_at (P := Tryz.prog) Tryz.underlying22 szAct HX.out.nn hi W'
  have AXW : Hid (∀ W, Below w1.heap.size w1 W → ActsAt W a len X) := hid fun W hW => HX.out.below (B1.trans (hW.mono B1.size)) (Nat.le_refl _)
  go_wp2_with fail
  go_loopw [5, 7, 8, 9] (fun vl vn vm v wx => ∃ (i : Nat) (M' : Dom) (B' : Nat → Prop) (l' mb' : Nat) (s' : DS) (L' : LS) (V : Nat → List Int) (T : List (Nat → List Int)) (vm' : Value), vm' = vm ∧ vl = .pointer (some ⟨l', 0, none⟩) ∧ vn = .string (strOfNums (textN 10 V)) ∧ v = .int .i64 i ∧ i ≤ 40 ∧ i ≤ len ∧ Hid (Sta wx M' B' d l' mb' (x + 17) (5 + (x : Int)) (5 * i) (At 10 T) V s' L') ∧ Hid (MayAt w1.heap.size wx M' B' vm' 10 T) ∧ Hid (T.length ≤ i + 1) ∧ Hid (Since w1 wx M' B')) (fun _ _ _ v _ => 40 - (Go.RowKit.intOf v).toNat)
  case atStart => exact ⟨0, _, B, l, mb, s, L, _, _, _, rfl, rfl, by rw [HTZ.out], rfl, by omega, Nat.zero_le _, ST5, MA4, hid (Nat.le_refl _), SI5⟩
  case round =>
    obtain ⟨i, M6, B6, l6, mb6, s6, L6, V6, T6, vm, rfl, rfl, rfl, rfl, hi40, hil, ST6, MA6, TL6, SI6⟩ := hrel
    clear ST5 MA4 SI5
    by_cases hgo : i < len ∧ i < 40
    · obtain ⟨h1, h2⟩ := hgo
      have h2i : (i : Int) < 40 := by omega
      have hixk := hixA i h1
      have AX := hid (AXW.out wr SI6.out.below)
      have c0 := AX.out.c0 i h1
      have c1 := AX.out.c1 i h1
      have c2 := AX.out.c2 i h1
      have c3 := AX.out.c3 i h1
      have c4 := AX.out.c4 i h1
      have c5 := AX.out.c5 i h1
      have AO := AX.out.ok i h1
      obtain ⟨⟨wh, xn, xt, xc, aa, al, ac, az, ka, kl, kc, kz⟩, hXi⟩ : ∃ y, X i = y := ⟨_, rfl⟩
      rw [hXi] at c0 c1 c2 c3 c4 c5 AO
      simp only at c0 c1 c2 c3 c4 c5
      have AO := hid AO
      have HXI := hid hXi
      clear hXi
      obtain ⟨now6, hnow6⟩ : ∃ t, strOfNums (textN 10 V6) = t := ⟨_, rfl⟩
      rw [hnow6]
      have HN6 := hid hnow6
      clear hnow6
      go_wp2_with fail
      obtain ⟨W0, hW0⟩ : ∃ W0, wr.alloc (.cells #[.int .i64 wh, .int .i64 xn, .int .i64 xt, .int .i64 xc, .slice aa al ac, .slice ka kl kc] 38) = W0 := ⟨_, rfl⟩
      obtain ⟨xb, hxb⟩ : ∃ xb, wr.heap.size = xb := ⟨_, rfl⟩
      have kW0 : Below wr.heap.size wr W0 := hW0 ▸ (Below.refl _ _).alloc (Nat.le_refl _) _
      have XO : Hid (W0.heap[xb]? = some (.cells #[.int .i64 wh, .int .i64 xn, .int .i64 xt, .int .i64 xc, .slice aa al ac, .slice ka kl kc] 38 (0, 0)) ∧ ∀ q, M6 q ∨ B6 q → q ≠ xb) := hid ⟨by rw [← hW0, ← hxb]; exact blk_new _ _, fun q hq e => by have := ST6.out.lt q hq; omega⟩
      have ST0 := hid (ST6.out.below kW0)
      have MA0 := hid (MA6.out.below kW0)
      have SI0 := hid (SI6.out.to kW0)
      have hgx : ∀ g n c, vm = .slice (some ⟨g, 0, none⟩) n c → g < xb := fun g n c e => by
        obtain ⟨g0, c0, e0, h1, -⟩ := MA6.out.row
        have := (h1.lt g (by rw [e]; rfl)).2
        omega
      have HGX := hid hgx
      have KP0 : Hid (∀ W, Below w1.heap.size w1 W → IntsAt W ka kl kc kz) := hid fun W hW => by have := (AXW.out W hW).ok i h1; rw [HXI.out] at this; exact this.keep
      have AT0 : Hid (IntsAt W0 aa al ac az) := hid (AO.out.at_.below kW0 (Nat.le_refl _))
      rw [hW0, hxb]
      clear kW0 ST6 MA6 SI6 hgx c0 c1 c2 c3 c4 c5 AX hixk hxb hW0
      have PK := pick_any wh 11 W0 AO.out.b0 (by omega) (by omega)
      obtain ⟨q, hq⟩ : ∃ q, wh % 11 = q := ⟨_, rfl⟩
      have hq0 : 0 ≤ q ∧ q < 11 := by omega
      rw [hq] at PK
      clear hq
      refine PK.mono ?_
      rintro e w6 ⟨rfl, rfl⟩
      clear PK
      go_upto_block 2 with fail
      go_cut [7, 8] (fun vn vm' W => ∃ (M' : Dom) (B' : Nat → Prop) (V' : Nat → List Int) (T' : List (Nat → List Int)) (vq : Value), vq = vm' ∧ vn = .string (strOfNums (textN 10 V')) ∧ Hid (MayAt w1.heap.size W M' B' vq 10 T') ∧ Hid (T'.length ≤ i + 2) ∧ Hid (Since w1 W M' B') ∧
        Hid (W.heap[xb]? = some (.cells #[.int .i64 wh, .int .i64 xn, .int .i64 xt, .int .i64 xc, .slice aa al ac, .slice ka kl kc] 38 (0, 0)) ∧ ∀ q, M' q ∨ B' q → q ≠ xb) ∧ Hid ((∃ mb' s' L', Sta W M' B' d l6 mb' (x + 17) (5 + (x : Int)) (5 * i + 1) (At 10 T') V' s' L') ∨ Brok W M' d (x + 17) (5 + (x : Int)) (5 * i + 1) (At 10 T')))
      case first =>
        as_aux_lemma =>
        by_cases h6 : q = 6
        · subst h6
          have SE := settleA (A' := At 10 [V6]) ST0.out ⟨_, List.mem_singleton.2 rfl, rfl⟩
          go_wp2_with fail
          refine SE.mono ?_
          rintro e w7 ⟨M7, B7, T7, ⟨rfl, mb7, s7, ST7⟩ | ⟨rfl, BK7⟩⟩
          · have XO7 := hid (stepped XO.out.1 XO.out.2 T7)
            have SI7 := hid (SI0.out.lstep T7)
            have ST7 := hid ST7
            have kA := (Below.refl w7.heap.size w7).alloc (Nat.le_refl _) (.cells #[.string now6] 9)
            have MA8 : Hid (MayAt w1.heap.size (w7.alloc (.cells #[.string now6] 9)) (M7.addX fun q => q = w7.heap.size) B7 (.slice (some ⟨w7.heap.size, 0, none⟩) 1 1) 10 [V6]) := hid (by rw [← HN6.out]; exact MayAt.one ST7.out.lt SI7.out.below.size)
            have ST8 := hid (ST7.out.otherG (F := fun _ => False) (G := fun q => q = w7.heap.size) (Ext.of_below kA _) (fun _ h => h.elim) (fun _ h => h.elim) (fun q hq => by subst hq; exact ⟨Nat.le_refl _, by simp⟩))
            have XO8 := hid (⟨blk_old (.cells #[.string now6] 9) XO7.out.1, XO7.out.2⟩ : (w7.alloc (.cells #[.string now6] 9)).heap[xb]? = _ ∧ ∀ q, (M7.addX fun q => q = w7.heap.size) q ∨ B7 q → q ≠ xb)
            have SI8 : Hid (Since w1 (w7.alloc (.cells #[.string now6] 9)) (M7.addX fun q => q = w7.heap.size) B7) := hid ⟨(SI7.out.to kA).below, SI7.out.new⟩
            clear SE T7 kA
            go_wp2_with fail
            go_meet
            exact ⟨_, B7, V6, [V6], _, rfl, by rw [HN6.out], MA8, hid (by simp), SI8, XO8, hid (.inl ⟨mb7, s7, _, ST8.out.mono (by omega) (fun _ h => h)⟩)⟩
          · have XO7 := hid (stepped XO.out.1 XO.out.2 T7)
            have SI7 := hid (SI0.out.lstep T7)
            have MA7 := hid (MA0.out.lstep T7)
            have BK7 := hid BK7
            clear SE T7
            go_wp2_with fail
            go_meet
            exact ⟨M7, B7, V6, T6, _, rfl, by rw [HN6.out], MA7, hid (by have := TL6.out; omega), SI7, XO7, hid (.inr (BK7.out.mono (by omega) (fun _ h => h)))⟩
        · by_cases h7 : q = 7
          · subst h7
            have SE := balanceA (A' := At 10 [V6]) ST0.out (by omega) ⟨_, List.mem_singleton.2 rfl, rfl⟩
            go_wp2_with fail
            refine SE.mono ?_
            rintro e w7 ⟨M7, B7, T7, ⟨rfl, mb7, s7, L7, ST7⟩ | ⟨rfl, BK7⟩⟩
            · have XO7 := hid (stepped XO.out.1 XO.out.2 T7)
              have SI7 := hid (SI0.out.lstep T7)
              have ST7 := hid ST7
              have kA := (Below.refl w7.heap.size w7).alloc (Nat.le_refl _) (.cells #[.string now6] 9)
              have MA8 : Hid (MayAt w1.heap.size (w7.alloc (.cells #[.string now6] 9)) (M7.addX fun q => q = w7.heap.size) B7 (.slice (some ⟨w7.heap.size, 0, none⟩) 1 1) 10 [V6]) := hid (by rw [← HN6.out]; exact MayAt.one ST7.out.lt SI7.out.below.size)
              have ST8 := hid (ST7.out.otherG (F := fun _ => False) (G := fun q => q = w7.heap.size) (Ext.of_below kA _) (fun _ h => h.elim) (fun _ h => h.elim) (fun q hq => by subst hq; exact ⟨Nat.le_refl _, by simp⟩))
              have XO8 := hid (⟨blk_old (.cells #[.string now6] 9) XO7.out.1, XO7.out.2⟩ : (w7.alloc (.cells #[.string now6] 9)).heap[xb]? = _ ∧ ∀ q, (M7.addX fun q => q = w7.heap.size) q ∨ B7 q → q ≠ xb)
              have SI8 : Hid (Since w1 (w7.alloc (.cells #[.string now6] 9)) (M7.addX fun q => q = w7.heap.size) B7) := hid ⟨(SI7.out.to kA).below, SI7.out.new⟩
              clear SE T7 kA
              go_wp2_with fail
              go_meet
              exact ⟨_, B7, V6, [V6], _, rfl, by rw [HN6.out], MA8, hid (by simp), SI8, XO8, hid (.inl ⟨mb7, s7, _, ST8.out.mono (by omega) (fun _ h => h)⟩)⟩
            · have XO7 := hid (stepped XO.out.1 XO.out.2 T7)
              have SI7 := hid (SI0.out.lstep T7)
              have MA7 := hid (MA0.out.lstep T7)
              have BK7 := hid BK7
              clear SE T7
              go_wp2_with fail
              go_meet
              exact ⟨M7, B7, V6, T6, _, rfl, by rw [HN6.out], MA7, hid (by have := TL6.out; omega), SI7, XO7, hid (.inr (BK7.out.mono (by omega) (fun _ h => h)))⟩
          · by_cases h89 : q = 8 ∨ q = 9
            · have x1 : W0.cell? ⟨xb, 1, none⟩ = some (.int .i64 xn) := blk_cell XO.out.1 rfl
              have PN := pick_any xn 20 W0 AO.out.b1 (by omega) (by omega)
              obtain ⟨bn, hbn⟩ : ∃ bn, xn % 20 = bn := ⟨_, rfl⟩
              rw [hbn] at PN
              clear hbn
              have BA := breakA ST0.out bn
              rcases h89 with rfl | rfl
              all_goals
                go_wp2_with fail
                refine PN.mono ?_
                rintro e w7 ⟨rfl, rfl⟩
                clear PN
                go_wp2_with fail
                refine BA.mono ?_
                rintro e w7 ⟨rfl, M7, s7, T7, ST7⟩
                have XO7 := hid (stepped XO.out.1 XO.out.2 T7)
                have SI7 := hid (SI0.out.lstep T7)
                have MA7 := hid (MA0.out.lstep T7)
                have ST7 := hid ST7
                clear BA T7
                go_wp2_with fail
                go_meet
                exact ⟨M7, B6, V6, T6, _, rfl, by rw [HN6.out], MA7, hid (by have := TL6.out; omega), SI7, XO7, hid (.inl ⟨mb6, s7, _, ST7.out.mono (by omega) (fun _ h => h)⟩)⟩
            · by_cases h10 : q = 10
              · subst h10
                go_wp2_with fail
                go_meet
                exact ⟨M6, B6, V6, T6, _, rfl, by rw [HN6.out], MA0, hid (by have := TL6.out; omega), SI0, XO, hid (.inl ⟨mb6, s6, _, ST0.out.mono (by omega) (fun _ h => h)⟩)⟩
              · have n8 : ¬ q = 8 := fun h => h89 (.inl h)
                have n9 : ¬ q = 9 := fun h => h89 (.inr h)
                have n6 : ¬ q = 6 := h6
                have n7 : ¬ q = 7 := h7
                clear h89
                have SX0 : ∀ W, Below W0.heap.size W0 W → W.cell? ⟨xb, 0, none⟩ = some (.int .i64 wh) ∧ W.cell? ⟨xb, 1, none⟩ = some (.int .i64 xn) ∧ W.cell? ⟨xb, 2, none⟩ = some (.int .i64 xt) ∧ W.cell? ⟨xb, 3, none⟩ = some (.int .i64 xc) ∧ W.cell? ⟨xb, 4, none⟩ = some (.slice aa al ac) ∧ W.cell? ⟨xb, 5, none⟩ = some (.slice ka kl kc) := fun W hW => by
                  have ho := (hW.block xb (lt_of_blk XO.out.1)).trans XO.out.1
                  exact ⟨blk_cell ho rfl, blk_cell ho rfl, blk_cell ho rfl, blk_cell ho rfl, blk_cell ho rfl, blk_cell ho rfl⟩
                have HO15 : ∀ W, Below W0.heap.size W0 W → Calls Tryz.prog 25 #[.pointer (some ⟨l6, 0, none⟩)] W fun e w' => e = .returned (.int .i64 10) ∧ Below W.heap.size W w' := fun W hW => by
                  have := homeA (ST0.out.below hW)
                  rw [hH] at this
                  refine this.mono ?_
                  rintro e w' ⟨rfl, rfl⟩
                  exact ⟨rfl, Below.refl _ _⟩
                have EN15 := fun W (hW : Below W0.heap.size W0 W) => entries5_any wh xn xt xc aa al ac az (.slice ka kl kc) 10 4 W (AT0.out.below hW (Nat.le_refl _)) AO.out.b1 AO.out.ab (by omega) (by omega)
                simp only [show ((10 : Nat) : Int) = 10 from rfl, show ((4 : Nat) : Int) = 4 from rfl] at EN15
                go_wp2_with fail
                refine wp_region_held_drew (S := fun W => W.cell? ⟨xb, 0, none⟩ = some (.int .i64 wh) ∧ W.cell? ⟨xb, 1, none⟩ = some (.int .i64 xn) ∧ W.cell? ⟨xb, 2, none⟩ = some (.int .i64 xt) ∧ W.cell? ⟨xb, 3, none⟩ = some (.int .i64 xc) ∧ W.cell? ⟨xb, 4, none⟩ = some (.slice aa al ac) ∧ W.cell? ⟨xb, 5, none⟩ = some (.slice ka kl kc)) (by kernel_rfl) (SX0 _ ((Below.refl W0.heap.size W0).drew)) (fun hHeld => ?_)
                refine wpAnyH_take (i := 0) (v := ?v1) (by simp only [List.getElem?_toArray, List.getElem?_cons_zero]; rfl) (by kernel_rfl) (by kernel_rfl) (by kernel_rfl) (by exact fun _ _ _ h => h) (Or.inl ⟨by rfl, ?h1⟩) (by assumption) ?r1
                case h1 => (intro w hSw; (try dsimp only at hSw); go_simp; try with_reducible rfl)
                try simp only [Act.put, List.setIfInBounds_toArray, List.set_cons_zero, List.set_cons_succ]
                refine wpAnyH_take (i := 1) (v := ?v2) (by simp only [List.getElem?_toArray, List.getElem?_cons_zero, List.getElem?_cons_succ]; rfl) (by kernel_rfl) (by kernel_rfl) (by kernel_rfl) (by exact fun _ _ _ h => h) (Or.inl ⟨by rfl, ?h2⟩) (by assumption) ?r2
                case h2 => (intro w hSw; (try dsimp only at hSw); go_simp; try with_reducible rfl)
                try simp only [Act.put, List.setIfInBounds_toArray, List.set_cons_zero, List.set_cons_succ]
                refine wpAnyH_ready (rs := [2]) (by kernel_rfl) (by simp) ?_
                refine (AllReadyH.cons (by simp only [List.getElem?_toArray, List.getElem?_cons_zero, List.getElem?_cons_succ]; rfl) (fun K hK => ?_) AllReadyH.nil)
                go_simp
                go_at_call 25
                refine (HO15 _ ((Below.refl W0.heap.size W0).drew)).mono ?_
                rintro e wq3 ⟨rfl, C3⟩
                have BB3 := ((Below.refl W0.heap.size W0).drew).trans (C3.mono (Below.size ((Below.refl W0.heap.size W0).drew)))
                refine hK.out _ _ (SX0 _ BB3) (fun hH4 => ?_)
                clear hK
                try simp only [Act.put, List.setIfInBounds_toArray, List.set_cons_zero, List.set_cons_succ]
                refine wpAnyH_ready (rs := [3]) (by kernel_rfl) (by simp) ?_
                refine (AllReadyH.cons (by simp only [List.getElem?_toArray, List.getElem?_cons_zero, List.getElem?_cons_succ]; rfl) (fun K hK => ?_) AllReadyH.nil)
                go_simp
                go_at_call 10
                refine (EN15 _ (BB3)).mono ?_
                rintro e wq5 ⟨va5, vb5, el5, rfl, EO5, RO5, EB5, EL5, C5⟩
                have BB5 := (BB3).trans (C5.mono (Below.size (BB3)))
                refine hK.out _ _ (SX0 _ BB5) (fun hH6 => ?_)
                clear hK
                try simp only [Act.put, List.setIfInBounds_toArray, List.set_cons_zero, List.set_cons_succ]
                refine wpAnyH_take (i := 4) (v := ?v7) (by simp only [List.getElem?_toArray, List.getElem?_cons_zero, List.getElem?_cons_succ]; rfl) (by kernel_rfl) (by kernel_rfl) (by kernel_rfl) (by exact fun _ _ _ h => h) (Or.inl ⟨by rfl, ?h7⟩) (by assumption) ?r7
                case h7 => (intro w hSw; (try dsimp only at hSw); go_simp; try with_reducible rfl)
                try simp only [Act.put, List.setIfInBounds_toArray, List.set_cons_zero, List.set_cons_succ]
                refine wpAnyH_take (i := 5) (v := ?v8) (by simp only [List.getElem?_toArray, List.getElem?_cons_zero, List.getElem?_cons_succ]; rfl) (by kernel_rfl) (by kernel_rfl) (by kernel_rfl) (by exact fun _ _ _ h => h) (Or.inl ⟨by rfl, ?h8⟩) (by assumption) ?r8
                case h8 => (intro w hSw; (try dsimp only at hSw); go_simp; try with_reducible rfl)
                try simp only [Act.put, List.setIfInBounds_toArray, List.set_cons_zero, List.set_cons_succ]
                refine wpAnyH_take (i := 6) (v := ?v9) (by simp only [List.getElem?_toArray, List.getElem?_cons_zero, List.getElem?_cons_succ]; rfl) (by kernel_rfl) (by kernel_rfl) (by kernel_rfl) (by exact fun _ _ _ h => h) (Or.inl ⟨by rfl, ?h9⟩) (by assumption) ?r9
                case h9 => (intro w hSw; (try dsimp only at hSw); go_simp; try with_reducible rfl)
                try simp only [Act.put, List.setIfInBounds_toArray, List.set_cons_zero, List.set_cons_succ]
                refine wpAnyH_take (i := 7) (v := ?v10) (by simp only [List.getElem?_toArray, List.getElem?_cons_zero, List.getElem?_cons_succ]; rfl) (by kernel_rfl) (by kernel_rfl) (by kernel_rfl) (by exact fun _ _ _ h => h) (Or.inl ⟨by rfl, ?h10⟩) (by assumption) ?r10
                case h10 => (intro w hSw; (try dsimp only at hSw); go_simp; try with_reducible rfl)
                try simp only [Act.put, List.setIfInBounds_toArray, List.set_cons_zero, List.set_cons_succ]
                refine wpAnyH_take (i := 8) (v := ?v11) (by simp only [List.getElem?_toArray, List.getElem?_cons_zero, List.getElem?_cons_succ]; rfl) (by kernel_rfl) (by kernel_rfl) (by kernel_rfl) (by exact fun _ _ _ h => h) (Or.inl ⟨by rfl, ?h11⟩) (by assumption) ?r11
                case h11 => (intro w hSw; (try dsimp only at hSw); go_simp; try with_reducible rfl)
                try simp only [Act.put, List.setIfInBounds_toArray, List.set_cons_zero, List.set_cons_succ]
                refine wpAnyH_done (by kernel_rfl) ?_ _
                have STe := hid (ST0.out.below (BB5))
                have MAe := hid (MA0.out.below (BB5))
                have SIe := hid (SI0.out.to (BB5))
                have XOe := hid (stepped XO.out.1 XO.out.2 (LStep.of_below (M := M6) (B := B6) (BB5)))
                have hent : ∀ y ∈ el5, y.2.length = 96 ∧ IsBytes y.2 := fun y hy => by
                  obtain ⟨us, u0, u1, u2⟩ := EO5.row
                  obtain ⟨i, hi⟩ := List.getElem?_of_mem hy
                  obtain ⟨u, k1, k2, k3, k4⟩ := u2 i y hi
                  exact ⟨by have := k2.1; simpa using this, k3⟩
                obtain ⟨ea, ec, rfl, EA, hec⟩ := EO5.out (N := inD M6) (fun q hq _ => by
                  rcases Nat.lt_or_ge q W0.heap.size with h | h
                  · exact Nat.lt_of_lt_of_le h (Below.size (BB3))
                  · exact absurd hq (ST0.out.sys.free h))
                have EAH := hid EA
                have EBH := hid EB5
                have HEN := hid hent
                obtain ⟨el, hel⟩ : ∃ el, el5 = el := ⟨_, rfl⟩
                subst hel
                obtain ⟨we, hwe⟩ : ∃ we, wq5 = we := ⟨_, rfl⟩
                rw [hwe] at STe MAe SIe XOe EAH
                rw [hwe]
                clear EA EO5 RO5 EB5 hent SX0 HO15 EN15 hwe
                go_wp2_with fail
                go_loopw [14, 79] (fun vn v W => ∃ j : Nat, vn = .string (strOfNums (textN 10 fun k => over (el5.take j) k (V6 k))) ∧ v = .int .i64 j ∧ j ≤ el5.length ∧ Hid (Below we.heap.size we W)) (fun _ v _ => el5.length - (Go.RowKit.intOf v).toNat)
                case atStart => exact ⟨0, by rw [← HN6.out]; rfl, rfl, Nat.zero_le _, hid (Below.refl _ _)⟩
                case round =>
                  obtain ⟨j, rfl, rfl, hj, BR⟩ := hrel
                  have STr := hid (STe.out.below BR.out)
                  have EAr := hid (EAH.out.below BR.out (Nat.le_refl _))
                  by_cases hjl : j < el5.length
                  · obtain ⟨⟨kx, kz⟩, hx⟩ : ∃ y, el5[j]? = some y := ⟨_, List.getElem?_eq_getElem hjl⟩
                    have e0 := EAr.out.c0 j _ hx
                    obtain ⟨pb, pc, e1, rz, -, hzb, -⟩ := EAr.out.c1 j _ hx
                    have hixE := EAr.out.idx (cap := ec) hjl
                    have hkz := HEN.out _ (List.mem_of_getElem? hx)
                    obtain ⟨kn, hkn, hkl⟩ : ∃ kn : Nat, kx = kn ∧ kn ≤ 10 := by
                      have := EBH.out _ (List.mem_of_getElem? hx)
                      exact ⟨kx.toNat, by simp only at this; omega, by simp only at this; omega⟩
                    subst hkn
                    have WFj : Hid (∀ k, k < 10 → (over (el5.take j) k (V6 k)).length = 96 ∧ IsBytes (over (el5.take j) k (V6 k))) := hid fun k hk => over_wf (fun y hy => HEN.out y (List.mem_of_mem_take hy)) (STr.out.wf (by rw [hH]; exact hk)) k
                    obtain ⟨Vj, hVj⟩ : ∃ Vj : Nat → List Int, (fun (k : Nat) => over (el5.take j) k (V6 k)) = Vj := ⟨_, rfl⟩
                    have HVJ : Hid (∀ k : Nat, over (el5.take j) k (V6 k) = Vj k) := hid fun k => congrFun hVj k
                    have WFV : Hid (∀ k, k < 10 → (Vj k).length = 96 ∧ IsBytes (Vj k)) := hid fun k hk => by rw [← HVJ.out k]; exact WFj.out k hk
                    have TKS : Hid (el5.take (j + 1) = el5.take j ++ [((kn : Int), kz)]) := hid (by rw [List.take_add_one, hx]; rfl)
                    rw [hVj]
                    have tl : (textN 10 Vj).length = 960 := textN_length (fun k hk => (WFV.out k hk).1)
                    have sz1 : (strOfNums (textN 10 Vj)).size = 960 := by rw [strOfNums_size, tl]
                    simp only at e0 e1 hkz
                    rw [hkz.1] at e1
                    by_cases hk10 : kn < 10
                    · have NX : Hid (∀ k, k < 10 → over (el5.take (j + 1)) k (V6 k) = if k = kn then kz else Vj k) := hid fun k hk => by
                        rw [TKS.out, over_snoc]
                        by_cases e : k = kn
                        · subst e; simp
                        · rw [if_neg e, if_neg (by simp; omega)]; exact HVJ.out k
                      have TS : Hid ((textN 10 Vj).take (kn * 96) ++ kz ++ (textN 10 Vj).drop (kn * 96 + 96) = textN 10 fun k => over (el5.take (j + 1)) k (V6 k)) := hid (by rw [textN_set (fun k hk => (WFV.out k hk).1) hk10]; exact (textN_congr NX.out).symm)
                      have CKn := fun n => conv_row (P := Tryz.prog) (w := wr.drewN n) Tryz.underlying45 Tryz.underlying5 Tryz.underlying9 pc (Row.keep rz (w' := wr.drewN n) (fun _ => rfl)) hkz.1
                      obtain ⟨tx, htx⟩ : ∃ tx, strOfNums (textN 10 Vj) = tx := ⟨_, rfl⟩
                      obtain ⟨TA, hTA⟩ : ∃ TA, (textN 10 Vj).take (kn * 96) = TA := ⟨_, rfl⟩
                      obtain ⟨TC, hTC⟩ : ∃ TC, (textN 10 Vj).drop (kn * 96 + 96) = TC := ⟨_, rfl⟩
                      have ex1 : tx.extract 0 (kn * 96) = strOfNums TA := by rw [← htx, ← hTA]; exact str_take _ _
                      have ex2 : tx.extract (kn * 96 + 96) 960 = strOfNums TC := by rw [← htx, ← hTC]; exact str_drop _ _ _ (by rw [tl]; exact Nat.le_refl _)
                      have la : TA.length = kn * 96 := by rw [← hTA, List.length_take, tl]; omega
                      have lc : TC.length = 864 - kn * 96 := by rw [← hTC, List.length_drop, tl]; omega
                      rw [htx] at sz1
                      rw [htx]
                      obtain ⟨tA, htA⟩ : ∃ tA, strOfNums TA = tA := ⟨_, rfl⟩
                      obtain ⟨tC, htC⟩ : ∃ tC, strOfNums TC = tC := ⟨_, rfl⟩
                      obtain ⟨tz, htz⟩ : ∃ tz, strOfNums kz = tz := ⟨_, rfl⟩
                      obtain ⟨tAz, htAz⟩ : ∃ tAz, tA ++ tz = tAz := ⟨_, rfl⟩
                      obtain ⟨tW, htW⟩ : ∃ tW, tAz ++ tC = tW := ⟨_, rfl⟩
                      have eW : Hid (tW = strOfNums (textN 10 fun k => over (el5.take (j + 1)) k (V6 k))) := hid (by rw [← htW, ← htAz, ← htA, ← htz, ← htC, str_append, str_append, ← TS.out, hTA, hTC])
                      have szA : tA.size = kn * 96 := by rw [← htA, strOfNums_size, la]
                      have szC : tC.size = 864 - kn * 96 := by rw [← htC, strOfNums_size, lc]
                      have szz : tz.size = 96 := by rw [← htz, strOfNums_size, hkz.1]
                      have szAz : tAz.size = kn * 96 + 96 := by rw [← htAz, ByteArray.size_append, szA, szz]
                      rw [htA] at ex1
                      rw [htC] at ex2
                      simp only [htz] at CKn
                      clear htx hTA hTC la lc TS tl htA htC htz hVj WFj NX
                      have hkz2 : (kn : Int) * 96 + 96 ≤ 960 := by omega
                      have hs0 : (kn : Int) * 96 < 960 := by omega
                      have hs1 : 0 ≤ (kn : Int) * 96 := by omega
                      have hs2 : (kn : Int) * 96 ≤ 960 := by omega
                      have hs3 : 0 ≤ (kn : Int) * 96 + 96 := by omega
                      have hwk : IntKind.i64.wrap ((kn : Int) * 96 + 96) = (kn : Int) * 96 + 96 := by rw [IntKind.wrap_i64]; omega
                      have hsz1 : ¬ (9223372036854775807 < kn * 96 + 96) := by omega
                      have hsz2 : ¬ (9223372036854775807 < kn * 96 + 96 + (864 - kn * 96)) := by omega
                      have ht1 : ((kn : Int) * 96).toNat = kn * 96 := by omega
                      have ht2 : ((kn : Int) * 96 + 96).toNat = kn * 96 + 96 := by omega
                      go_wp2_with fail
                      go_quiet (fail)
                      go_wp2_with fail
                      go_roundw
                      case measure => simp [Go.RowKit.intOf]; omega
                      case rel => exact ⟨j + 1, by rw [eW.out], by go_num, by omega, hid (Below.drewN BR.out _)⟩
                    · obtain rfl : kn = 10 := by omega
                      have NX : Hid (textN 10 Vj = textN 10 fun k => over (el5.take (j + 1)) k (V6 k)) := hid (textN_congr fun k hk => by
                        rw [TKS.out, over_snoc, if_neg (by simp; omega)]
                        exact (HVJ.out k).symm)
                      obtain ⟨tx, htx⟩ : ∃ tx, strOfNums (textN 10 Vj) = tx := ⟨_, rfl⟩
                      rw [htx] at sz1
                      rw [htx]
                      have HTX := hid htx
                      clear htx tl hVj WFj rz
                      go_wp2_with fail
                      go_roundw
                      case measure => simp [Go.RowKit.intOf]; omega
                      case rel => exact ⟨j + 1, by rw [← HTX.out, NX.out], by go_num, by omega, BR⟩
                  · obtain rfl : j = el5.length := by omega
                    obtain ⟨Vn, hVn⟩ : ∃ Vn : Nat → List Int, (fun (k : Nat) => over el5 k (V6 k)) = Vn := ⟨_, rfl⟩
                    have hVt : (fun (k : Nat) => over (el5.take el5.length) k (V6 k)) = Vn := by rw [← hVn, List.take_length]
                    rw [hVt]
                    obtain ⟨tn, htn⟩ : ∃ tn, strOfNums (textN 10 Vn) = tn := ⟨_, rfl⟩
                    rw [htn]
                    have HTN := hid htn
                    have MAr := hid (MAe.out.below BR.out)
                    have SIr := hid (SIe.out.to BR.out)
                    have XOr := hid (stepped XOe.out.1 XOe.out.2 (LStep.of_below (M := M6) (B := B6) BR.out))
                    have WA := writeA (A' := At 10 (T6 ++ [Vn])) STr.out (by omega) ea el5.length ec el5 EAr.out (by omega) (fun y hy => (HEN.out y hy).2) (fun V' ⟨V0, v1, v2⟩ => ⟨V0, List.mem_append_left _ v1, v2⟩) (by rw [hVn]; exact ⟨Vn, List.mem_append_right _ (List.mem_singleton.2 rfl), rfl⟩)
                    rw [hVn] at WA
                    clear htn hVn hVt EAr EAH
                    go_wp2_with fail
                    refine WA.mono ?_
                    rintro e w9 ⟨M9, B9, T9, ⟨c, hc, rfl, mb9, ST9'⟩ | ⟨rfl, mb9, s9, L9, ST9'⟩ | ⟨rfl, BK9'⟩⟩
                    · have XO9 := hid (stepped XOr.out.1 XOr.out.2 T9)
                      have SI9 := hid (SIr.out.lstep T9)
                      have MA9 := hid (MAr.out.lstep T9)
                      have ST9 := hid ST9'
                      clear ST9' T9 WA
                      rcases hc with rfl | rfl
                      all_goals
                        go_wp2_with fail
                        go_meet
                        exact ⟨M9, B9, V6, T6, _, rfl, by rw [HN6.out], MA9, hid (by have := TL6.out; omega), SI9, XO9, hid (.inl ⟨mb9, s6, L6, ST9.out.mono (by omega) (fun _ h => h)⟩)⟩
                    · have XO9 := hid (stepped XOr.out.1 XOr.out.2 T9)
                      have SI9 := hid (SIr.out.lstep T9)
                      have MA9 := hid (MAr.out.lstep T9)
                      have ST9 := hid ST9'
                      clear ST9' T9
                      obtain ⟨g9, c9, rfl, rw9, -⟩ := MA9.out.row
                      have hg9 := HGX.out g9 _ _ rfl
                      have rwA := rw9.alloc (.cells #[.string tn] 9)
                      have hTL := TL6.out
                      clear WA rw9
                      go_wp2_with (at_builtin; refine wpList_append_at (P := Tryz.prog) rfl _ _ 60 rfl 9 i0 (.string ⟨#[]⟩) 1 16 Tryz.underlying60 hi0 hz0 hz1 hz2 rfl (by decide) g9 c9 T6.length (txts 10 T6) rfl rwA ⟨w9.heap.size, 0, none⟩ 1 1 [.string tn] rfl rfl (row_new w9 #[.string tn] 9).news (fun u hu => by simp at hu; subst hu; rfl) ?c3 (by decide) ?_)
                      case c3 => omega
                      intro g' c' w10 O10 G10 P10 hc10
                      obtain ⟨MA10', X10, hG, hXg, hNg, hlo, hgl⟩ := MayAt.more (V := Vn) MA9.out ST9.out.lt SI9.out.below.size (by rw [HTN.out]; exact O10) G10 P10 hc10
                      have MA10 := hid MA10'
                      have SI10 : Hid (Since w1 w10 (M9.addX fun q => q = g' ∧ w9.heap.size ≤ q) B9) := hid ⟨Below.ext SI9.out.below X10 (fun q hq => by subst hq; exact hlo) SI9.out.below.size, SI9.out.new⟩
                      have XO10 := hid (⟨X10.blk (show ¬ xb = g9 by omega) XO9.out.1, XO9.out.2⟩ : w10.heap[xb]? = _ ∧ ∀ q, (M9.addX fun q => q = g' ∧ w9.heap.size ≤ q) q ∨ B9 q → q ≠ xb)
                      have ST10 := hid (ST9.out.otherG X10 (fun q hq => by subst hq; exact hXg) (fun q hq => by subst hq; exact hNg) hG)
                      clear MA10' X10 hG hXg hNg O10 G10 P10 rwA
                      go_wp2_with fail
                      go_meet
                      exact ⟨_, B9, Vn, T6 ++ [Vn], _, rfl, by rw [HTN.out], MA10, hid (by simp; omega), SI10, XO10, hid (.inl ⟨mb9, s9, L9, ST10.out⟩)⟩
                    · have XO9 := hid (⟨(stepped XOr.out.1 XOr.out.2 T9).1, fun q hq => (stepped XOr.out.1 XOr.out.2 T9).2 q (hq.elim .inl (fun h => h.elim))⟩ : w9.heap[xb]? = _ ∧ ∀ q, M9 q ∨ none' q → q ≠ xb)
                      have SI9 := hid (SIr.out.lstep T9).forget
                      have MA9 := hid (MAr.out.lstep T9).forget
                      have BK9 := hid BK9'
                      have LT9 : Hid (∀ q, M9.M q ∨ none' q → q < w9.heap.size) := hid (fun q hq => by
                        obtain ⟨s, ⟨pd, -, D⟩, -⟩ := BK9.out
                        rcases hq with hq | hq
                        · exact D.ml q hq
                        · exact hq.elim)
                      clear BK9' T9
                      obtain ⟨g9, c9, rfl, rw9, -⟩ := MA9.out.row
                      have hg9 := HGX.out g9 _ _ rfl
                      have rwA := rw9.alloc (.cells #[.string tn] 9)
                      have hTL := TL6.out
                      clear WA rw9
                      go_wp2_with (at_builtin; refine wpList_append_at (P := Tryz.prog) rfl _ _ 60 rfl 9 i0 (.string ⟨#[]⟩) 1 16 Tryz.underlying60 hi0 hz0 hz1 hz2 rfl (by decide) g9 c9 T6.length (txts 10 T6) rfl rwA ⟨w9.heap.size, 0, none⟩ 1 1 [.string tn] rfl rfl (row_new w9 #[.string tn] 9).news (fun u hu => by simp at hu; subst hu; rfl) ?c3 (by decide) ?_)
                      case c3 => omega
                      intro g' c' w10 O10 G10 P10 hc10
                      obtain ⟨MA10', X10, hG, hXg, hNg, hlo, hgl⟩ := MayAt.more (V := Vn) MA9.out LT9.out SI9.out.below.size (by rw [HTN.out]; exact O10) G10 P10 hc10
                      have MA10 := hid MA10'
                      have SI10 : Hid (Since w1 w10 (M9.addX fun q => q = g' ∧ w9.heap.size ≤ q) none') := hid ⟨Below.ext SI9.out.below X10 (fun q hq => by subst hq; exact hlo) SI9.out.below.size, SI9.out.new⟩
                      have XO10 := hid (⟨X10.blk (show ¬ xb = g9 by omega) XO9.out.1, XO9.out.2⟩ : w10.heap[xb]? = _ ∧ ∀ q, (M9.addX fun q => q = g' ∧ w9.heap.size ≤ q) q ∨ none' q → q ≠ xb)
                      have BK10 := hid (BK9.out.otherG X10 (fun q hq => by subst hq; exact hXg) (fun q hq => by subst hq; exact hNg.1) hG)
                      clear MA10' X10 hG hXg hNg O10 G10 P10 rwA
                      go_wp2_with fail
                      go_meet
                      exact ⟨_, none', V6, T6 ++ [Vn], _, rfl, by rw [HN6.out], MA10, hid (by simp; omega), SI10, XO10, hid (.inr BK10.out)⟩
      case rest =>
        obtain ⟨M7, B7, V7, T7, vq, rfl, rfl, MA7, TL7, SI7, XO7, ST7⟩ := hcut
        clear ST0 MA0 SI0 XO HGX AT0 TL6
        obtain ⟨tn7, htn7⟩ : ∃ t, strOfNums (textN 10 V7) = t := ⟨_, rfl⟩
        rw [htn7]
        have HT7 := hid htn7
        clear htn7
        have x1 : wc.cell? ⟨xb, 1, none⟩ = some (.int .i64 xn) := blk_cell XO7.out.1 rfl
        by_cases hgone : (∃ mb' s' L', Sta wc M7 B7 d l6 mb' (x + 17) (5 + (x : Int)) (5 * i + 1) (At 10 T7) V7 s' L') ∧ q ≠ 10
        · obtain ⟨⟨mb7, s7, L7, ST8'⟩, hq10⟩ := hgone
          have ST8 := hid ST8'
          have BR8 := brokenA ST8'
          have n10 : ¬ q = 10 := hq10
          clear ST8' ST7
          go_wp2_with fail
          refine BR8.mono ?_
          rintro e w8 ⟨rfl, rfl⟩
          clear BR8
          go_wp2_with fail
          go_roundw
          case measure => simp [Go.RowKit.intOf]; omega
          case rel => exact ⟨i + 1, M7, B7, l6, mb7, s7, L7, V7, T7, _, rfl, rfl, by rw [HT7.out], by go_num, by omega, by omega, hid (ST8.out.mono (by omega) (fun _ h => h)), MA7, hid (by have := TL7.out; omega), SI7⟩
        · have SF : Hid (Saf wc M7 d (x + 17) (5 + (x : Int)) (5 * i + 1) (At 10 T7)) := hid (by
            rcases ST7.out with ⟨mb', s', L', h⟩ | h
            · exact h.saf
            · exact h.saf)
          obtain ⟨bb, hbb, BRx⟩ : ∃ bb : Bool, (bb = true ∨ q = 10) ∧ Calls Tryz.prog 34 #[.pointer (some ⟨d, 0, none⟩)] wc fun e w' => e = .returned (.bool bb) ∧ wc = w' := by
            rcases ST7.out with ⟨mb', s', L', h⟩ | h
            · exact ⟨false, .inr (Classical.byContradiction fun hq => hgone ⟨⟨mb', s', L', h⟩, hq⟩), brokenA h⟩
            · exact ⟨true, .inl rfl, brokenB h⟩
          obtain ⟨Wc, hWc⟩ : ∃ Wc, wc = Wc := ⟨_, rfl⟩
          go_upto_region 39 with fail
          go_cut [154] (fun v W => v = .bool false ∧ W = Wc)
          case first =>
            as_aux_lemma =>
            subst hWc
            go_wp2_with fail
            refine BRx.mono ?_
            rintro e w8 ⟨rfl, rfl⟩
            cases bb with
            | true =>
              go_wp2_with fail
              go_meet
              exact ⟨rfl, rfl⟩
            | false =>
              obtain rfl : q = 10 := by simpa using hbb
              go_wp2_with fail
              go_meet
              exact ⟨rfl, rfl⟩
          case rest =>
            obtain ⟨rfl, hW2⟩ := hcut
            subst hW2
            subst hWc
            clear hgone BRx hbb ST7
            have KP : Hid (∀ W, Below w1.heap.size w1 W → IntsAt W ka kl kc kz ∧ IsNums kz) := hid fun W hW => ⟨KP0.out W hW, AO.out.kb⟩
            have ML7 : Hid (∀ q, M7.M q → q < wc.heap.size) := hid fun q hq => by
              obtain ⟨s, ⟨pd, -, D⟩, -⟩ := SF.out
              exact D.ml q hq
            have SX40 : ∀ W, Below wc.heap.size wc W → (W.cell? ⟨xb, 5, none⟩ = some (.slice ka kl kc) ∧ W.cell? ⟨xb, 2, none⟩ = some (.int .i64 xt)) ∧ W.cell? ⟨xb, 3, none⟩ = some (.int .i64 xc) := fun W hW => by
              have ho := (hW.block xb (lt_of_blk XO7.out.1)).trans XO7.out.1
              exact ⟨⟨blk_cell ho rfl, blk_cell ho rfl⟩, blk_cell ho rfl⟩
            have FW40 : ∀ W, Below wc.heap.size wc W → Calls Tryz.prog 36 #[.slice ka kl kc, .int .i64 16] W fun e w' => ∃ fa fl fc ys, e = .returned (.slice fa fl fc) ∧ IntsAt w' fa fl fc ys ∧ (0 < fl → W.heap.size ≤ sB fa) ∧ Below W.heap.size W w' := fun W hW => by
              obtain ⟨k1, k2⟩ := KP.out W (SI7.out.below.trans (hW.mono SI7.out.below.size))
              exact few5_ints ka kl kc 16 kz W k1 k2 (by omega)
            go_wp2_with fail
            refine wp_region_held_drew (S := fun W => (W.cell? ⟨xb, 5, none⟩ = some (.slice ka kl kc) ∧ W.cell? ⟨xb, 2, none⟩ = some (.int .i64 xt)) ∧ W.cell? ⟨xb, 3, none⟩ = some (.int .i64 xc)) (by kernel_rfl) (SX40 _ ((Below.refl wc.heap.size wc).drew)) (fun hHeld => ?_)
            refine wpAnyH_take (i := 0) (v := ?v12) (by simp only [List.getElem?_toArray, List.getElem?_cons_zero]; rfl) (by kernel_rfl) (by kernel_rfl) (by kernel_rfl) (by exact fun _ _ _ h => h) (Or.inl ⟨by rfl, ?h12⟩) (by assumption) ?r12
            case h12 => (intro w hSw; (try dsimp only at hSw); go_simp; try with_reducible rfl)
            try simp only [Act.put, List.setIfInBounds_toArray, List.set_cons_zero, List.set_cons_succ]
            refine wpAnyH_take (i := 1) (v := ?v13) (by simp only [List.getElem?_toArray, List.getElem?_cons_zero, List.getElem?_cons_succ]; rfl) (by kernel_rfl) (by kernel_rfl) (by kernel_rfl) (by exact fun _ _ _ h => h) (Or.inl ⟨by rfl, ?h13⟩) (by assumption) ?r13
            case h13 => (intro w hSw; (try dsimp only at hSw); go_simp; try with_reducible rfl)
            try simp only [Act.put, List.setIfInBounds_toArray, List.set_cons_zero, List.set_cons_succ]
            refine wpAnyH_take (i := 2) (v := ?v14) (by simp only [List.getElem?_toArray, List.getElem?_cons_zero, List.getElem?_cons_succ]; rfl) (by kernel_rfl) (by kernel_rfl) (by kernel_rfl) (by exact fun _ _ _ h => h) (Or.inl ⟨by rfl, ?h14⟩) (by assumption) ?r14
            case h14 => (intro w hSw; (try dsimp only at hSw); go_simp; try with_reducible rfl)
            try simp only [Act.put, List.setIfInBounds_toArray, List.set_cons_zero, List.set_cons_succ]
            refine wpAnyH_take (i := 4) (v := ?v15) (by simp only [List.getElem?_toArray, List.getElem?_cons_zero, List.getElem?_cons_succ]; rfl) (by kernel_rfl) (by kernel_rfl) (by kernel_rfl) (by exact fun _ _ _ h => h) (Or.inl ⟨by rfl, ?h15⟩) (by assumption) ?r15
            case h15 => (intro w hSw; (try dsimp only at hSw); go_simp; try with_reducible rfl)
            try simp only [Act.put, List.setIfInBounds_toArray, List.set_cons_zero, List.set_cons_succ]
            refine wpAnyH_take (i := 5) (v := ?v16) (by simp only [List.getElem?_toArray, List.getElem?_cons_zero, List.getElem?_cons_succ]; rfl) (by kernel_rfl) (by kernel_rfl) (by kernel_rfl) (by exact fun _ _ _ h => h) (Or.inl ⟨by rfl, ?h16⟩) (by assumption) ?r16
            case h16 => (intro w hSw; (try dsimp only at hSw); go_simp; try with_reducible rfl)
            try simp only [Act.put, List.setIfInBounds_toArray, List.set_cons_zero, List.set_cons_succ]
            refine wpAnyH_take (i := 6) (v := ?v17) (by simp only [List.getElem?_toArray, List.getElem?_cons_zero, List.getElem?_cons_succ]; rfl) (by kernel_rfl) (by kernel_rfl) (by kernel_rfl) (by exact fun _ _ _ h => h) (Or.inl ⟨by rfl, ?h17⟩) (by assumption) ?r17
            case h17 => (intro w hSw; (try dsimp only at hSw); go_simp; try with_reducible rfl)
            try simp only [Act.put, List.setIfInBounds_toArray, List.set_cons_zero, List.set_cons_succ]
            refine wpAnyH_take (i := 7) (v := ?v18) (by simp only [List.getElem?_toArray, List.getElem?_cons_zero, List.getElem?_cons_succ]; rfl) (by kernel_rfl) (by kernel_rfl) (by kernel_rfl) (by exact fun _ _ _ h => h) (Or.inl ⟨by rfl, ?h18⟩) (by assumption) ?r18
            case h18 => (intro w hSw; (try dsimp only at hSw); go_simp; try with_reducible rfl)
            try simp only [Act.put, List.setIfInBounds_toArray, List.set_cons_zero, List.set_cons_succ]
            refine wpAnyH_take (i := 8) (v := ?v19) (by simp only [List.getElem?_toArray, List.getElem?_cons_zero, List.getElem?_cons_succ]; rfl) (by kernel_rfl) (by kernel_rfl) (by kernel_rfl) (by exact fun _ _ _ h => h) (Or.inl ⟨by rfl, ?h19⟩) (by assumption) ?r19
            case h19 => (intro w hSw; (try dsimp only at hSw); go_simp; try with_reducible rfl)
            try simp only [Act.put, List.setIfInBounds_toArray, List.set_cons_zero, List.set_cons_succ]
            refine wpAnyH_take (i := 9) (v := ?v20) (by simp only [List.getElem?_toArray, List.getElem?_cons_zero, List.getElem?_cons_succ]; rfl) (by kernel_rfl) (by kernel_rfl) (by kernel_rfl) (by exact fun _ _ _ h => h) (Or.inl ⟨by rfl, ?h20⟩) (by assumption) ?r20
            case h20 => (intro w hSw; (try dsimp only at hSw); go_simp; try with_reducible rfl)
            try simp only [Act.put, List.setIfInBounds_toArray, List.set_cons_zero, List.set_cons_succ]
            refine wpAnyH_ready (rs := [3]) (by kernel_rfl) (by simp) ?_
            refine (AllReadyH.cons (by simp only [List.getElem?_toArray, List.getElem?_cons_zero, List.getElem?_cons_succ]; rfl) (fun K hK => ?_) AllReadyH.nil)
            go_simp
            go_at_call 36
            refine (FW40 _ ((Below.refl wc.heap.size wc).drew)).mono ?_
            rintro e wq21 ⟨fa21, fl21, fc21, ys21, rfl, fi21, fn21, C21⟩
            have BB21 := ((Below.refl wc.heap.size wc).drew).trans (C21.mono (Below.size ((Below.refl wc.heap.size wc).drew)))
            refine hK.out _ _ (SX40 _ BB21) (fun hH22 => ?_)
            clear hK
            try simp only [Act.put, List.setIfInBounds_toArray, List.set_cons_zero, List.set_cons_succ]
            refine wpAnyH_ready (rs := [10]) (by kernel_rfl) (by simp) ?_
            refine (AllReadyH.cons (by simp only [List.getElem?_toArray, List.getElem?_cons_zero, List.getElem?_cons_succ]; rfl) (fun K hK => ?_) AllReadyH.nil)
            go_simp
            go_at_call 35
            refine (fallS (SF.out.below (BB21)) fa21 fl21 fc21 ys21 _ _ (fi21) (fun h0 hm => ?_)).mono ?_
            · have q1 := ML7.out _ hm
              have q2 := fn21 h0
              have q3 := Below.size ((Below.refl wc.heap.size wc).drew)
              omega
            rintro e wz ⟨rfl, M8, V8, V8', hV8, hA8, F8', FU8', S8⟩
            have SI8 := hid ((SI7.out.to (BB21)).step S8).forget
            have MA8 := hid (((MA7.out.below (BB21)).lstep (LStep.of_step S8)).forget)
            have XO8 := hid (stepped (stepped XO7.out.1 XO7.out.2 (LStep.of_below (BB21))).1 (stepped XO7.out.1 XO7.out.2 (LStep.of_below (BB21))).2 (LStep.of_step S8))
            have FE8 := hid F8'
            have FU8 := hid FU8'
            have HV8 : Hid (∃ V0, V0 ∈ T7 ∧ textN 10 V8 = textN 10 V0) := hid (by
              obtain ⟨V0, v1, v2⟩ := hA8
              exact ⟨V0, v1, by rw [← v2]; exact textN_congr (fun k hk => hV8 k (by rw [hH]; exact hk))⟩)
            clear F8' FU8' S8 hA8 hV8
            have SWz : (wz.cell? ⟨xb, 5, none⟩ = some (.slice ka kl kc) ∧ wz.cell? ⟨xb, 2, none⟩ = some (.int .i64 xt)) ∧ wz.cell? ⟨xb, 3, none⟩ = some (.int .i64 xc) := ⟨⟨blk_cell XO8.out.1 rfl, blk_cell XO8.out.1 rfl⟩, blk_cell XO8.out.1 rfl⟩
            refine hK.out _ _ SWz (fun hHz => ?_)
            clear hK SWz
            try simp only [Act.put, List.setIfInBounds_toArray, List.set_cons_zero, List.set_cons_succ]
            refine wpAnyH_done (by kernel_rfl) ?_ _
            have x1z : wz.cell? ⟨xb, 1, none⟩ = some (.int .i64 xn) := blk_cell XO8.out.1 rfl
            go_upto_if 169 with fail
            go_cut [] (fun W => ∃ (M' : Dom) (V' : Nat → List Int), Hid (FelU W M' d (x + 17) (5 + (x : Int)) (5 * i + 2) V') ∧ Hid (∃ V0, V0 ∈ T7 ∧ textN 10 V' = textN 10 V0) ∧ Hid (MayAt w1.heap.size W M' none' vq 10 T7) ∧ Hid (Since w1 W M' none'))
            case first =>
              as_aux_lemma =>
              by_cases h3 : xn.tmod 3 = 0
              · obtain ⟨q3, hq3⟩ : ∃ q3, xn.tdiv 3 = q3 := ⟨_, rfl⟩
                have hq3b : -9223372036854775808 ≤ q3 ∧ q3 ≤ 9223372036854775807 := by
                  have h0 : -9223372036854775808 ≤ xn ∧ xn ≤ 9223372036854775807 := AO.out.b1
                  rw [← hq3]
                  rcases Int.le_total 0 xn with h | h
                  · rw [Int.tdiv_eq_ediv_of_nonneg h]; omega
                  · have h4 : xn.tdiv 3 = -((-xn).tdiv 3) := by rw [Int.neg_tdiv, Int.neg_neg]
                    rw [h4, Int.tdiv_eq_ediv_of_nonneg (by omega)]; omega
                have hwq : IntKind.i64.wrap q3 = q3 := by rw [IntKind.wrap_i64]; omega
                have hwq2 : wrap64 q3 = q3 := by unfold wrap64; omega
                have PN := pick_any q3 25 wz hq3b (by omega) (by omega)
                obtain ⟨bn, hbn⟩ : ∃ bn, q3 % 25 = bn := ⟨_, rfl⟩
                rw [hbn] at PN
                have BF := breakF FE8.out bn
                clear hbn
                go_wp2_with fail
                refine PN.mono ?_
                rintro e w9 ⟨rfl, rfl⟩
                clear PN
                go_wp2_with fail
                refine BF.mono ?_
                rintro e w9 ⟨rfl, M9, F9, S9⟩
                have SI9 := hid ((SI8.out.step S9).forget)
                have MA9 := hid (MA8.out.lstep (LStep.of_step S9))
                have XO9 := hid (stepped (B := none') XO8.out.1 (fun q hq => XO8.out.2 q (hq.elim .inl (fun h => h.elim))) (LStep.of_step S9))
                have OF := openF F9 (by omega)
                clear BF S9 F9
                go_wp2_with fail
                refine OF.mono ?_
                rintro e w10 ⟨⟨v10, rfl⟩, M10, SF10', T10⟩
                have SI10 := hid (SI9.out.lstep T10)
                have MA10 := hid (MA9.out.lstep T10)
                have XO10 := hid (stepped XO9.out.1 XO9.out.2 T10)
                have SF10 := hid SF10'
                have ML10 : Hid (∀ q, M10.M q → q < w10.heap.size) := hid fun q hq => by
                  obtain ⟨s, ⟨pd, -, D⟩, -⟩ := SF10.out
                  exact D.ml q hq
                have SX44 : ∀ W, Below w10.heap.size w10 W → (W.cell? ⟨xb, 5, none⟩ = some (.slice ka kl kc) ∧ W.cell? ⟨xb, 2, none⟩ = some (.int .i64 xt)) ∧ W.cell? ⟨xb, 3, none⟩ = some (.int .i64 xc) := fun W hW => by
                  have ho := (hW.block xb (lt_of_blk XO10.out.1)).trans XO10.out.1
                  exact ⟨⟨blk_cell ho rfl, blk_cell ho rfl⟩, blk_cell ho rfl⟩
                have FW44 : ∀ W, Below w10.heap.size w10 W → Calls Tryz.prog 36 #[.slice ka kl kc, .int .i64 16] W fun e w' => ∃ fa fl fc ys, e = .returned (.slice fa fl fc) ∧ IntsAt w' fa fl fc ys ∧ (0 < fl → W.heap.size ≤ sB fa) ∧ Below W.heap.size W w' := fun W hW => by
                  obtain ⟨k1, k2⟩ := KP.out W (SI10.out.below.trans (hW.mono SI10.out.below.size))
                  exact few5_ints ka kl kc 16 kz W k1 k2 (by omega)
                clear OF SF10' T10
                go_wp2_with fail
                refine wp_region_held_drew (S := fun W => (W.cell? ⟨xb, 5, none⟩ = some (.slice ka kl kc) ∧ W.cell? ⟨xb, 2, none⟩ = some (.int .i64 xt)) ∧ W.cell? ⟨xb, 3, none⟩ = some (.int .i64 xc)) (by kernel_rfl) (SX44 _ ((Below.refl w10.heap.size w10).drew)) (fun hHeld => ?_)
                refine wpAnyH_take (i := 0) (v := ?v23) (by simp only [List.getElem?_toArray, List.getElem?_cons_zero]; rfl) (by kernel_rfl) (by kernel_rfl) (by kernel_rfl) (by exact fun _ _ _ h => h) (Or.inl ⟨by rfl, ?h23⟩) (by assumption) ?r23
                case h23 => (intro w hSw; (try dsimp only at hSw); go_simp; try with_reducible rfl)
                try simp only [Act.put, List.setIfInBounds_toArray, List.set_cons_zero, List.set_cons_succ]
                refine wpAnyH_take (i := 1) (v := ?v24) (by simp only [List.getElem?_toArray, List.getElem?_cons_zero, List.getElem?_cons_succ]; rfl) (by kernel_rfl) (by kernel_rfl) (by kernel_rfl) (by exact fun _ _ _ h => h) (Or.inl ⟨by rfl, ?h24⟩) (by assumption) ?r24
                case h24 => (intro w hSw; (try dsimp only at hSw); go_simp; try with_reducible rfl)
                try simp only [Act.put, List.setIfInBounds_toArray, List.set_cons_zero, List.set_cons_succ]
                refine wpAnyH_take (i := 2) (v := ?v25) (by simp only [List.getElem?_toArray, List.getElem?_cons_zero, List.getElem?_cons_succ]; rfl) (by kernel_rfl) (by kernel_rfl) (by kernel_rfl) (by exact fun _ _ _ h => h) (Or.inl ⟨by rfl, ?h25⟩) (by assumption) ?r25
                case h25 => (intro w hSw; (try dsimp only at hSw); go_simp; try with_reducible rfl)
                try simp only [Act.put, List.setIfInBounds_toArray, List.set_cons_zero, List.set_cons_succ]
                refine wpAnyH_take (i := 4) (v := ?v26) (by simp only [List.getElem?_toArray, List.getElem?_cons_zero, List.getElem?_cons_succ]; rfl) (by kernel_rfl) (by kernel_rfl) (by kernel_rfl) (by exact fun _ _ _ h => h) (Or.inl ⟨by rfl, ?h26⟩) (by assumption) ?r26
                case h26 => (intro w hSw; (try dsimp only at hSw); go_simp; try with_reducible rfl)
                try simp only [Act.put, List.setIfInBounds_toArray, List.set_cons_zero, List.set_cons_succ]
                refine wpAnyH_take (i := 5) (v := ?v27) (by simp only [List.getElem?_toArray, List.getElem?_cons_zero, List.getElem?_cons_succ]; rfl) (by kernel_rfl) (by kernel_rfl) (by kernel_rfl) (by exact fun _ _ _ h => h) (Or.inl ⟨by rfl, ?h27⟩) (by assumption) ?r27
                case h27 => (intro w hSw; (try dsimp only at hSw); go_simp; try with_reducible rfl)
                try simp only [Act.put, List.setIfInBounds_toArray, List.set_cons_zero, List.set_cons_succ]
                refine wpAnyH_take (i := 6) (v := ?v28) (by simp only [List.getElem?_toArray, List.getElem?_cons_zero, List.getElem?_cons_succ]; rfl) (by kernel_rfl) (by kernel_rfl) (by kernel_rfl) (by exact fun _ _ _ h => h) (Or.inl ⟨by rfl, ?h28⟩) (by assumption) ?r28
                case h28 => (intro w hSw; (try dsimp only at hSw); go_simp; try with_reducible rfl)
                try simp only [Act.put, List.setIfInBounds_toArray, List.set_cons_zero, List.set_cons_succ]
                refine wpAnyH_take (i := 7) (v := ?v29) (by simp only [List.getElem?_toArray, List.getElem?_cons_zero, List.getElem?_cons_succ]; rfl) (by kernel_rfl) (by kernel_rfl) (by kernel_rfl) (by exact fun _ _ _ h => h) (Or.inl ⟨by rfl, ?h29⟩) (by assumption) ?r29
                case h29 => (intro w hSw; (try dsimp only at hSw); go_simp; try with_reducible rfl)
                try simp only [Act.put, List.setIfInBounds_toArray, List.set_cons_zero, List.set_cons_succ]
                refine wpAnyH_take (i := 8) (v := ?v30) (by simp only [List.getElem?_toArray, List.getElem?_cons_zero, List.getElem?_cons_succ]; rfl) (by kernel_rfl) (by kernel_rfl) (by kernel_rfl) (by exact fun _ _ _ h => h) (Or.inl ⟨by rfl, ?h30⟩) (by assumption) ?r30
                case h30 => (intro w hSw; (try dsimp only at hSw); go_simp; try with_reducible rfl)
                try simp only [Act.put, List.setIfInBounds_toArray, List.set_cons_zero, List.set_cons_succ]
                refine wpAnyH_take (i := 9) (v := ?v31) (by simp only [List.getElem?_toArray, List.getElem?_cons_zero, List.getElem?_cons_succ]; rfl) (by kernel_rfl) (by kernel_rfl) (by kernel_rfl) (by exact fun _ _ _ h => h) (Or.inl ⟨by rfl, ?h31⟩) (by assumption) ?r31
                case h31 => (intro w hSw; (try dsimp only at hSw); go_simp; try with_reducible rfl)
                try simp only [Act.put, List.setIfInBounds_toArray, List.set_cons_zero, List.set_cons_succ]
                refine wpAnyH_ready (rs := [3]) (by kernel_rfl) (by simp) ?_
                refine (AllReadyH.cons (by simp only [List.getElem?_toArray, List.getElem?_cons_zero, List.getElem?_cons_succ]; rfl) (fun K hK => ?_) AllReadyH.nil)
                go_simp
                go_at_call 36
                refine (FW44 _ ((Below.refl w10.heap.size w10).drew)).mono ?_
                rintro e wq32 ⟨fa32, fl32, fc32, ys32, rfl, fi32, fn32, C32⟩
                have BB32 := ((Below.refl w10.heap.size w10).drew).trans (C32.mono (Below.size ((Below.refl w10.heap.size w10).drew)))
                refine hK.out _ _ (SX44 _ BB32) (fun hH33 => ?_)
                clear hK
                try simp only [Act.put, List.setIfInBounds_toArray, List.set_cons_zero, List.set_cons_succ]
                refine wpAnyH_ready (rs := [10]) (by kernel_rfl) (by simp) ?_
                refine (AllReadyH.cons (by simp only [List.getElem?_toArray, List.getElem?_cons_zero, List.getElem?_cons_succ]; rfl) (fun K hK => ?_) AllReadyH.nil)
                go_simp
                go_at_call 35
                refine (fallS (SF10.out.below (BB32)) fa32 fl32 fc32 ys32 _ _ (fi32) (fun h0 hm => ?_)).mono ?_
                · have q1 := ML10.out _ hm
                  have q2 := fn32 h0
                  have q3 := Below.size ((Below.refl w10.heap.size w10).drew)
                  omega
                rintro e wz ⟨rfl, M8, V8, V8', hV8, hA8, F8', FU8', S8⟩
                have SI8 := hid ((SI10.out.to (BB32)).step S8).forget
                have MA8 := hid (((MA10.out.below (BB32)).lstep (LStep.of_step S8)).forget)
                have XO8 := hid (stepped (stepped XO10.out.1 XO10.out.2 (LStep.of_below (BB32))).1 (stepped XO10.out.1 XO10.out.2 (LStep.of_below (BB32))).2 (LStep.of_step S8))
                have FE8 := hid F8'
                have FU8 := hid FU8'
                have HV9 : Hid (∃ V0, V0 ∈ T7 ∧ textN 10 V8 = textN 10 V0) := hid (by
                  obtain ⟨V0, v1, v2⟩ := HV8.out
                  exact ⟨V0, v1, by rw [← v2]; exact textN_congr (fun k hk => by rw [hV8 k (by rw [hH]; exact hk), hA8])⟩)
                clear F8' FU8' S8 hA8 hV8
                have SWz : (wz.cell? ⟨xb, 5, none⟩ = some (.slice ka kl kc) ∧ wz.cell? ⟨xb, 2, none⟩ = some (.int .i64 xt)) ∧ wz.cell? ⟨xb, 3, none⟩ = some (.int .i64 xc) := ⟨⟨blk_cell XO8.out.1 rfl, blk_cell XO8.out.1 rfl⟩, blk_cell XO8.out.1 rfl⟩
                refine hK.out _ _ SWz (fun hHz => ?_)
                clear hK SWz
                try simp only [Act.put, List.setIfInBounds_toArray, List.set_cons_zero, List.set_cons_succ]
                refine wpAnyH_done (by kernel_rfl) ?_ _
                go_wp2_with fail
                go_meet
                exact ⟨M8, V8, FU8, HV9, MA8, SI8⟩
              · go_wp2_with fail
                go_meet
                exact ⟨M8, V8, hid (by
                  obtain ⟨s, k1, k2, r, P, k3, k4, k5, k6, k7⟩ := FU8.out
                  exact ⟨s, k1, k2, r, P, k3, k4, k5, by omega, k7⟩), HV8, MA8, SI8⟩
            case rest =>
              obtain ⟨M12, V12, FU12, HV12, MA12, SI12⟩ := hcut
              clear XO7 XO8 FE8 FU8 SI8 MA8 HV8 SF SI7 MA7
              have OX := openX FU12.out (by omega)
              go_wp2_with fail
              refine OX.mono ?_
              rintro e w13 ⟨M13, B13, l13, mb13, s13, L13, rfl, T13, LX13'⟩
              have SI13 := hid (SI12.out.lstep T13)
              have MA13 := hid (MA12.out.lstep T13)
              have LX13 := hid LX13'
              have HS13 := homeS_any LX13.out.live (by omega) (by omega)
              rw [hH] at HS13
              obtain ⟨is, his⟩ : ∃ t, strOfNums (textN 10 V12) = t := ⟨_, rfl⟩
              rw [his] at HS13
              have HIS := hid his
              clear OX T13 LX13' his
              go_wp2_with fail
              refine HS13.mono ?_
              rintro e w14 ⟨rfl, LV14', T14⟩
              have SI14 := hid (SI13.out.lstep T14)
              have MA14 := hid (MA13.out.lstep T14)
              have LX14 : Hid (LiveX w14 M13 B13 d l13 mb13 (x + 17) (5 + (x : Int)) (5 * i + 2 + 1) V12 s13 L13) := hid ⟨LV14', LX13.out.q, LX13.out.full, LX13.out.x⟩
              have WF12 : Hid (∀ k, k < 10 → (V12 k).length = 96 ∧ IsBytes (V12 k)) := hid fun k hk => LV14'.wf (by rw [hH]; exact hk)
              clear HS13 LV14' T14
              obtain ⟨nT, hnT⟩ : ∃ nT, T7.length = nT := ⟨_, rfl⟩
              have HNT := hid hnT
              obtain ⟨g12, c12, e12, rw12, -, -, hlc12, -⟩ := MA14.out.row
              rw [hnT] at e12 rw12
              rw [e12] at rw12
              obtain ⟨a12', c12', e12', -, -, -, row12, -, -⟩ := row_of_owns rw12
              cases e12'
              subst e12
              have hix12 : ∀ (k : Nat), k < nT → ∀ W', (Instr.indexAt 60 (.slice (some ⟨g12, 0, none⟩) nT c12) (.int .i64 k)).run Tryz.prog W' = .ok (.pointer (some ⟨g12, k, none⟩)) W' := fun k hk W' => by
                have := idx_at1 (P := Tryz.prog) (T := 60) (a := some ⟨g12, 0, none⟩) (cap := c12) Tryz.underlying60 (show (Tryz.prog.info? 9).map (·.size) = some 1 by kernel_rfl) (fun _ => rfl) hk W'
                rw [show sO (some ⟨g12, 0, none⟩) + k = k from Nat.zero_add k] at this
                exact this
              have HIX12 := hid hix12
              have ROW12 := hid row12
              have HLC := hid hlc12
              have hnT42 : nT ≤ 100 := by have := TL7.out; have := HNT.out; omega
              clear row12 rw12 hix12 hnT hlc12
              go_wp2_with fail
              go_loopw [21, 204] (fun u v W => ∃ (k : Nat) (b : Bool), u = .bool b ∧ v = .int .i64 k ∧ k ≤ nT ∧ Hid (b = true ↔ ∃ V0, V0 ∈ T7.take k ∧ is = strOfNums (textN 10 V0)) ∧ Hid (Below w14.heap.size w14 W)) (fun _ v _ => nT - (Go.RowKit.intOf v).toNat)
              case atStart => exact ⟨0, false, rfl, rfl, Nat.zero_le _, hid (by simp), hid (Below.refl _ _)⟩
              case round =>
                obtain ⟨k, b, rfl, rfl, hk, HB, BR⟩ := hrel
                by_cases hkl : k < nT
                · obtain ⟨Vk, hVk⟩ : ∃ Vk, T7[k]? = some Vk := ⟨_, List.getElem?_eq_getElem (by rw [HNT.out]; exact hkl)⟩
                  have hixk := HIX12.out k hkl
                  have ck : wr.cell? ⟨g12, k, none⟩ = some (.string (strOfNums (textN 10 Vk))) := by
                    have := (ROW12.out.below BR.out (Nat.le_refl _)).cell k (.string (strOfNums (textN 10 Vk))) (by unfold txts; rw [List.getElem?_map, hVk]; rfl)
                    simpa [sB, sO] using this
                  have TKS : Hid (T7.take (k + 1) = T7.take k ++ [Vk]) := hid (by rw [List.take_add_one, hVk]; rfl)
                  clear hVk
                  cases b with
                  | true =>
                    go_wp2_with fail
                    go_roundw
                    case measure => simp [Go.RowKit.intOf]; omega
                    case rel =>
                      refine ⟨k + 1, true, rfl, by go_num, by omega, hid ⟨fun _ => ?_, fun _ => rfl⟩, BR⟩
                      obtain ⟨V0, v1, v2⟩ := HB.out.1 rfl
                      exact ⟨V0, by rw [TKS.out]; exact List.mem_append_left _ v1, v2⟩
                  | false =>
                    obtain ⟨tk, htk⟩ : ∃ tk, strOfNums (textN 10 Vk) = tk := ⟨_, rfl⟩
                    rw [htk] at ck
                    have HTK := hid htk
                    clear htk
                    by_cases he : tk = is
                    · subst he
                      go_wp2_with fail
                      go_roundw
                      case measure => simp [Go.RowKit.intOf]; omega
                      case rel =>
                        exact ⟨k + 1, true, by simp, by go_num, by omega, hid ⟨fun _ => ⟨Vk, by rw [TKS.out]; simp, HTK.out.symm⟩, fun _ => rfl⟩, BR⟩
                    · have hne : (tk.toList == is.toList) = false := by
                        rw [beq_eq_false_iff_ne]
                        intro h
                        rw [Lib.toList_data, Lib.toList_data] at h
                        exact he (ByteArray.ext (Array.toList_inj.1 h))
                      go_wp2_with fail
                      go_roundw
                      case measure => simp [Go.RowKit.intOf]; omega
                      case rel =>
                        refine ⟨k + 1, false, by simp [hne], by go_num, by omega, hid ⟨fun h => (by cases h), fun ⟨V0, v1, v2⟩ => ?_⟩, BR⟩
                        rw [TKS.out] at v1
                        rcases List.mem_append.1 v1 with v1 | v1
                        · exact HB.out.2 ⟨V0, v1, v2⟩
                        · obtain rfl : V0 = Vk := by simpa using v1
                          exact absurd (v2.trans HTK.out).symm he
                · obtain rfl : k = nT := by omega
                  have hb : b = true := HB.out.2 (by
                    obtain ⟨V0, v1, v2⟩ := HV12.out
                    exact ⟨V0, by rw [← HNT.out, List.take_length]; exact v1, by rw [← HIS.out, v2]⟩)
                  subst hb
                  obtain ⟨V15, FU15', hV15⟩ := LX14.out.fel (by omega)
                  have FU15 := hid (FU15'.below BR.out)
                  have SI15 := hid ((SI14.out.to BR.out).forget)
                  have HV15 : Hid (textN 10 V15 = textN 10 V12) := hid (textN_congr fun k hk => hV15 k (by rw [hH]; exact hk))
                  have OX := openX FU15.out (by omega)
                  clear FU15' hV15
                  go_wp2_with fail
                  refine OX.mono ?_
                  rintro e w16 ⟨M16, B16, l16, mb16, s16, L16, rfl, T16, LX16'⟩
                  have SI16 := hid (SI15.out.lstep T16)
                  have LX16 := hid LX16'
                  have HS16 := homeS_any LX16.out.live (by omega) (by omega)
                  rw [hH, HV15.out, HIS.out] at HS16
                  clear OX T16 LX16'
                  go_wp2_with fail
                  refine HS16.mono ?_
                  rintro e w17 ⟨rfl, LV17, T17⟩
                  have SI17 := hid (SI16.out.lstep T17)
                  have ST17 : Hid (Sta w17 M16 B16 d l16 mb16 (x + 17) (5 + (x : Int)) (5 * i + 2 + 1 + 1) (At 10 [V15]) V15 s16 L16) := hid (LiveX.sta ⟨LV17, LX16.out.q, LX16.out.full, LX16.out.x⟩ (by omega) ⟨_, List.mem_singleton.2 rfl, rfl⟩)
                  have kA := (Below.refl w17.heap.size w17).alloc (Nat.le_refl _) (.cells #[.string is] 9)
                  have MA18 : Hid (MayAt w1.heap.size (w17.alloc (.cells #[.string is] 9)) (M16.addX fun q => q = w17.heap.size) B16 (.slice (some ⟨w17.heap.size, 0, none⟩) 1 1) 10 [V15]) := hid (by rw [← HIS.out, ← HV15.out]; exact MayAt.one ST17.out.lt SI17.out.below.size)
                  have ST18 := hid (ST17.out.otherG (F := fun _ => False) (G := fun q => q = w17.heap.size) (Ext.of_below kA _) (fun _ h => h.elim) (fun _ h => h.elim) (fun q hq => by subst hq; exact ⟨Nat.le_refl _, by simp⟩))
                  have SI18 : Hid (Since w1 (w17.alloc (.cells #[.string is] 9)) (M16.addX fun q => q = w17.heap.size) B16) := hid ⟨(SI17.out.to kA).below, SI17.out.new⟩
                  have EI : Hid (is = strOfNums (textN 10 V15)) := hid (by rw [HV15.out, HIS.out])
                  clear HS16 LV17 T17 kA
                  go_wp2_with fail
                  refine ⟨?_, ?measure⟩
                  case' measure => simp [Go.RowKit.intOf]; omega
                  exact ⟨i + 1, _, B16, l16, mb16, s16, L16, V15, [V15], _, rfl, rfl, by rw [EI.out], by go_num, by omega, by omega, hid (ST18.out.mono (by omega) (fun _ h => h)), MA18, hid (by simp), SI18⟩
    · have BF := B1.trans ((SI6.out.below).mono B1.size)
      by_cases h1 : i < len
      · obtain rfl : i = 40 := by omega
        have h2 : (40 : Int) < (len : Int) := by omega
        go_wp2_with fail
        go_ret
        exact ⟨rfl, BF⟩
      · obtain rfl : i = len := by omega
        go_wp2_with fail
        go_ret
        exact ⟨rfl, BF⟩

end Go.Proofs.YtddcggdbnhmoiaaGreat
