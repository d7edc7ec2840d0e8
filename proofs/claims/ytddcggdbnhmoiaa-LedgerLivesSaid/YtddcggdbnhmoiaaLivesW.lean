/- LedgerLives: the walk -/
import Derived.Test.YtddcggdbnhmoiaaLivesB
open Go Go.RowKit
namespace Go.Proofs.Ytddcggdbnhmoiaa

theorem szAct : (Try.prog.info? 36).map (·.size) = some 6 := by kernel_rfl
theorem wrap_bd (n : Int) : -9223372036854775808 ≤ IntKind.i64.wrap n ∧ IntKind.i64.wrap n ≤ 9223372036854775807 := by rw [IntKind.wrap_i64]; omega

set_option maxRecDepth 100000 in
set_option maxHeartbeats 8000000 in
theorem ledgerLives_any (a : Option Addr) (len cap : Nat) (X : Nat → ActV) (w : World) (hX : ActsAt w a len X) :
    Calls Try.prog 5 #[.slice a len cap] w fun e w' => e = .returned (.bool true) ∧ Below w.heap.size w w' := by
  have HX := hid hX
  clear hX
  go_enter Try.func5, Try.ntmps5
  go_wp2_with fail
  refine (known5_any w).mono ?_
  rintro e w1 ⟨rfl, B1⟩
  have FO := found5_any 32 16 w1 (by omega) (by omega) (by decide)
  simp only [show ((32 : Nat) : Int) = 32 from rfl] at FO
  have hH : homes 32 16 = 14 := by decide
  go_wp2_with fail
  refine FO.mono ?_
  rintro e w2 ⟨M, B, d, l, mb, s, L, rfl, b⟩
  have SI := hid b.since
  have LV := hid b.live
  have QU : Hid (Quiet s) := hid ⟨b.kept, b.up⟩
  have US : Hid (L.used = 0) := hid b.full.used
  clear b FO
  go_wp2_with fail
  refine (known5_any w2).mono ?_
  rintro e w3 ⟨rfl, B3⟩
  have SI3 := hid (SI.out.to B3)
  have LV3 := hid (LV.out.below B3)
  clear SI LV B3
  have hixA : ∀ (i : Nat), i < len → ∀ W', (Instr.indexAt 26 (.slice a len cap) (.int .i64 i)).run Try.prog W' = .ok (.pointer (some ⟨sB a, sO a + i * 6, none⟩)) W' := fun i hi W' => idx_at (P := Try.prog) Try.underlying26 szAct HX.out.nn hi W'
  have AXW : Hid (∀ W, Below w1.heap.size w1 W → ActsAt W a len X) := hid fun W hW => HX.out.below (B1.trans (hW.mono B1.size)) (Nat.le_refl _)
  go_wp2_with fail
  go_loopw [3, 5] (fun u v wx => ∃ (i : Nat) (M' : Dom) (B' : Nat → Prop) (l' mb' : Nat) (s' : DS) (L' : LS) (V : Nat → List Int), u = .pointer (some ⟨l', 0, none⟩) ∧ v = .int .i64 i ∧ i ≤ 9 ∧ i ≤ len ∧ Hid (Live wx M' B' d l' mb' 32 16 (3 * i) V s' L') ∧ Hid (Quiet s') ∧ Hid (L'.used = 0) ∧ Hid (Since w1 wx M' B')) (fun _ v _ => 9 - (Go.RowKit.intOf v).toNat)
  case atStart => exact ⟨0, M, B, l, mb, s, L, _, rfl, rfl, by omega, Nat.zero_le _, LV3, QU, US, SI3⟩
  case round =>
    obtain ⟨i, M5, B5, l5, mb5, s5, L5, V, rfl, rfl, hi9, hil, LV5, Q5, U5, SI5⟩ := hrel
    by_cases hgo : i < len ∧ i < 9
    · obtain ⟨h1, h2⟩ := hgo
      have hixk := hixA i h1
      obtain ⟨⟨wh, xn, xt, xc, aa, al, ac, az, ka, kl, kc, kz⟩, hXi⟩ : ∃ y, X i = y := ⟨_, rfl⟩
      have AO := hid ((AXW.out wr SI5.out.below).ok i h1)
      rw [hXi] at AO
      have C1 : Hid (∀ W, Below w1.heap.size w1 W → W.cell? ⟨sB a, sO a + i * 6 + 1, none⟩ = some (.int .i64 xn)) := hid fun W hW => by have := (AXW.out W hW).c1 i h1; rw [hXi] at this; exact this
      have C2 : Hid (∀ W, Below w1.heap.size w1 W → W.cell? ⟨sB a, sO a + i * 6 + 2, none⟩ = some (.int .i64 xt)) := hid fun W hW => by have := (AXW.out W hW).c2 i h1; rw [hXi] at this; exact this
      have C3 : Hid (∀ W, Below w1.heap.size w1 W → W.cell? ⟨sB a, sO a + i * 6 + 3, none⟩ = some (.int .i64 xc)) := hid fun W hW => by have := (AXW.out W hW).c3 i h1; rw [hXi] at this; exact this
      have C5 : Hid (∀ W, Below w1.heap.size w1 W → W.cell? ⟨sB a, sO a + i * 6 + 5, none⟩ = some (.slice ka kl kc)) := hid fun W hW => by have := (AXW.out W hW).c5 i h1; rw [hXi] at this; exact this
      have KP : Hid (∀ W, Below w1.heap.size w1 W → IntsAt W ka kl kc kz ∧ IsNums kz) := hid fun W hW => by have := (AXW.out W hW).ok i h1; rw [hXi] at this; exact ⟨this.keep, this.kb⟩
      have WT5 := hid (LV5.out.wet Q5.out U5.out (by omega))
      clear hXi LV5 Q5 U5
      go_wp2_with fail
      simp only [show decide ((i : Int) < 9) = true from decide_eq_true (by omega)]
      go_loopw [6] (fun v wx => ∃ (k : Nat) (M' : Dom) (B' : Nat → Prop) (mb' : Nat) (s' : DS) (L' : LS), v = .int .i64 k ∧ k ≤ 5 ∧ Hid (Wet wx M' B' d l5 mb' 32 16 (3 * i) k s' L') ∧ Hid (Since w1 wx M' B')) (fun v _ => 5 - (Go.RowKit.intOf v).toNat)
      case atStart => exact ⟨0, M5, B5, mb5, s5, L5, rfl, by omega, WT5, SI5⟩
      case round =>
        obtain ⟨k, M6, B6, mb6, s6, L6, rfl, hk5, WT6, SI6⟩ := hrel
        clear WT5
        by_cases hk : k < 5
        · have HO : ∀ W, Below wr.heap.size wr W → Calls Try.prog 11 #[.pointer (some ⟨l5, 0, none⟩)] W fun e w' => e = .returned (.int .i64 14) ∧ Below W.heap.size W w' := fun W hW => by
            have := homeWet (WT6.out.below hW)
            rw [hH] at this
            refine this.mono ?_
            rintro e w' ⟨rfl, rfl⟩
            exact ⟨rfl, Below.refl _ _⟩
          obtain ⟨nk, hnk⟩ : ∃ nk, IntKind.i64.wrap (xn + (k : Int)) = nk := ⟨_, rfl⟩
          have hnb : -9223372036854775808 ≤ nk ∧ nk ≤ 9223372036854775807 := hnk ▸ wrap_bd _
          have PK : ∀ W, Calls Try.prog 8 #[.int .i64 nk, .int .i64 14] W fun e w' => e = .returned (.int .i64 (nk % 14)) ∧ Below W.heap.size W w' := fun W => by
            refine (pick_any nk 14 W hnb (by omega) (by omega)).mono ?_
            rintro e w' ⟨rfl, rfl⟩
            exact ⟨rfl, Below.refl _ _⟩
          have SW : ∀ W, Below wr.heap.size wr W → W.cell? ⟨sB a, sO a + i * 6 + 1, none⟩ = some (.int .i64 xn) := fun W hW => C1.out W (SI6.out.below.trans (hW.mono SI6.out.below.size))
          go_wp2_with fail
          refine wp_region_held_drew (S := fun W => W.cell? ⟨sB a, sO a + i * 6 + 1, none⟩ = some (.int .i64 xn)) (by kernel_rfl) (SW _ ((Below.refl wr.heap.size wr).drew)) (fun hHeld => ?_)
          refine wpAnyH_take (i := 0) (v := ?v1) (by simp only [List.getElem?_toArray, List.getElem?_cons_zero]; rfl) (by kernel_rfl) (by kernel_rfl) (by kernel_rfl) (by exact fun _ _ _ h => h) (Or.inl ⟨by rfl, ?h1⟩) (by assumption) ?r1
          case h1 => (intro w hSw; (try dsimp only at hSw); go_simp; try with_reducible rfl)
          try simp only [Act.put, List.setIfInBounds_toArray, List.set_cons_zero, List.set_cons_succ]
          refine wpAnyH_take (i := 1) (v := ?v2) (by simp only [List.getElem?_toArray, List.getElem?_cons_zero, List.getElem?_cons_succ]; rfl) (by kernel_rfl) (by kernel_rfl) (by kernel_rfl) (by exact fun _ _ _ h => h) (Or.inl ⟨by rfl, ?h2⟩) (by assumption) ?r2
          case h2 => (intro w hSw; (try dsimp only at hSw); go_simp; try with_reducible rfl)
          try simp only [Act.put, List.setIfInBounds_toArray, List.set_cons_zero, List.set_cons_succ]
          refine wpAnyH_take (i := 2) (v := ?v3) (by simp only [List.getElem?_toArray, List.getElem?_cons_zero, List.getElem?_cons_succ]; rfl) (by kernel_rfl) (by kernel_rfl) (by kernel_rfl) (by exact fun _ _ _ h => h) (Or.inl ⟨by rfl, ?h3⟩) (by assumption) ?r3
          case h3 => (intro w hSw; (try dsimp only at hSw); go_simp; try with_reducible rfl)
          try simp only [Act.put, List.setIfInBounds_toArray, List.set_cons_zero, List.set_cons_succ]
          refine wpAnyH_take (i := 3) (v := ?v4) (by simp only [List.getElem?_toArray, List.getElem?_cons_zero, List.getElem?_cons_succ]; rfl) (by kernel_rfl) (by kernel_rfl) (by kernel_rfl) (by exact fun _ _ _ h => h) (Or.inl ⟨by rfl, ?h4⟩) (by assumption) ?r4
          case h4 => (intro w hSw; (try dsimp only at hSw); go_simp; try with_reducible rfl)
          try simp only [Act.put, List.setIfInBounds_toArray, List.set_cons_zero, List.set_cons_succ]
          refine wpAnyH_take (i := 4) (v := ?v5) (by simp only [List.getElem?_toArray, List.getElem?_cons_zero, List.getElem?_cons_succ]; rfl) (by kernel_rfl) (by kernel_rfl) (by kernel_rfl) (by exact fun _ _ _ h => h) (Or.inl ⟨by rfl, ?h5⟩) (by assumption) ?r5
          case h5 => (intro w hSw; (try dsimp only at hSw); go_simp; try with_reducible rfl)
          try simp only [Act.put, List.setIfInBounds_toArray, List.set_cons_zero, List.set_cons_succ]
          refine wpAnyH_take (i := 5) (v := ?v6) (by simp only [List.getElem?_toArray, List.getElem?_cons_zero, List.getElem?_cons_succ]; rfl) (by kernel_rfl) (by kernel_rfl) (by kernel_rfl) (by exact fun _ _ _ h => h) (Or.inl ⟨by rfl, ?h6⟩) (by assumption) ?r6
          case h6 => (intro w hSw; (try dsimp only at hSw); go_simp; try with_reducible rfl)
          try simp only [Act.put, List.setIfInBounds_toArray, List.set_cons_zero, List.set_cons_succ]
          refine wpAnyH_take (i := 6) (v := ?v7) (by simp only [List.getElem?_toArray, List.getElem?_cons_zero, List.getElem?_cons_succ]; rfl) (by kernel_rfl) (by kernel_rfl) (by kernel_rfl) (by exact fun _ _ _ h => h) (Or.inl ⟨by rfl, ?h7⟩) (by assumption) ?r7
          case h7 => (intro w hSw; (try dsimp only at hSw); go_simp; try with_reducible rfl)
          try simp only [Act.put, List.setIfInBounds_toArray, List.set_cons_zero, List.set_cons_succ]
          refine wpAnyH_take (i := 7) (v := ?v8) (by simp only [List.getElem?_toArray, List.getElem?_cons_zero, List.getElem?_cons_succ]; rfl) (by kernel_rfl) (by kernel_rfl) (by kernel_rfl) (by exact fun _ _ _ h => h) (Or.inl ⟨by rfl, ?h8⟩) (by assumption) ?r8
          case h8 => (intro w hSw; (try dsimp only at hSw); go_simp; try with_reducible rfl)
          try simp only [Act.put, List.setIfInBounds_toArray, List.set_cons_zero, List.set_cons_succ]
          refine wpAnyH_take (i := 8) (v := ?v9) (by simp only [List.getElem?_toArray, List.getElem?_cons_zero, List.getElem?_cons_succ]; rfl) (by kernel_rfl) (by kernel_rfl) (by kernel_rfl) (by exact fun _ _ _ h => h) (Or.inl ⟨by rfl, ?h9⟩) (by assumption) ?r9
          case h9 => (intro w hSw; (try dsimp only at hSw); go_simp; try with_reducible rfl)
          try simp only [Act.put, List.setIfInBounds_toArray, List.set_cons_zero, List.set_cons_succ]
          refine wpAnyH_take (i := 11) (v := ?v10) (by simp only [List.getElem?_toArray, List.getElem?_cons_zero, List.getElem?_cons_succ]; rfl) (by kernel_rfl) (by kernel_rfl) (by kernel_rfl) (by exact fun _ _ _ h => h) (Or.inl ⟨by rfl, ?h10⟩) (by assumption) ?r10
          case h10 => (intro w hSw; (try dsimp only at hSw); go_simp; try with_reducible rfl)
          try simp only [Act.put, List.setIfInBounds_toArray, List.set_cons_zero, List.set_cons_succ]
          refine wpAnyH_take (i := 12) (v := ?v11) (by simp only [List.getElem?_toArray, List.getElem?_cons_zero, List.getElem?_cons_succ]; rfl) (by kernel_rfl) (by kernel_rfl) (by kernel_rfl) (by exact fun _ _ _ h => h) (Or.inl ⟨by rfl, ?h11⟩) (by assumption) ?r11
          case h11 => (intro w hSw; (try dsimp only at hSw); go_simp; try with_reducible rfl)
          try simp only [Act.put, List.setIfInBounds_toArray, List.set_cons_zero, List.set_cons_succ]
          refine wpAnyH_take (i := 13) (v := ?v12) (by simp only [List.getElem?_toArray, List.getElem?_cons_zero, List.getElem?_cons_succ]; rfl) (by kernel_rfl) (by kernel_rfl) (by kernel_rfl) (by exact fun _ _ _ h => h) (Or.inl ⟨by rfl, ?h12⟩) (by assumption) ?r12
          case h12 => (intro w hSw; (try dsimp only at hSw); go_simp; try with_reducible rfl)
          try simp only [Act.put, List.setIfInBounds_toArray, List.set_cons_zero, List.set_cons_succ]
          refine wpAnyH_take (i := 14) (v := ?v13) (by simp only [List.getElem?_toArray, List.getElem?_cons_zero, List.getElem?_cons_succ]; rfl) (by kernel_rfl) (by kernel_rfl) (by kernel_rfl) (by exact fun _ _ _ h => h) (Or.inl ⟨by rfl, ?h13⟩) (by assumption) ?r13
          case h13 => (intro w hSw; (try dsimp only at hSw); go_simp; try with_reducible rfl)
          try simp only [Act.put, List.setIfInBounds_toArray, List.set_cons_zero, List.set_cons_succ]
          refine wpAnyH_take (i := 15) (v := ?v14) (by simp only [List.getElem?_toArray, List.getElem?_cons_zero, List.getElem?_cons_succ]; rfl) (by kernel_rfl) (by kernel_rfl) (by kernel_rfl) (by exact fun _ _ _ h => h) (Or.inl ⟨by rfl, ?h14⟩) (by assumption) ?r14
          case h14 => (intro w hSw; (try dsimp only at hSw); go_simp; try with_reducible rfl)
          try simp only [Act.put, List.setIfInBounds_toArray, List.set_cons_zero, List.set_cons_succ]
          refine wpAnyH_ready (rs := [9]) (by kernel_rfl) (by simp) ?_
          refine (AllReadyH.cons (by simp only [List.getElem?_toArray, List.getElem?_cons_zero, List.getElem?_cons_succ]; rfl) (fun K hK => ?_) AllReadyH.nil)
          go_simp
          go_at_call 11
          refine (HO _ ((Below.refl wr.heap.size wr).drew)).mono ?_
          rintro e wq15 ⟨rfl, C15⟩
          have BB15 := ((Below.refl wr.heap.size wr).drew).trans (C15.mono (Below.size ((Below.refl wr.heap.size wr).drew)))
          refine hK.out _ _ (SW _ BB15) (fun hH16 => ?_)
          clear hK
          try simp only [Act.put, List.setIfInBounds_toArray, List.set_cons_zero, List.set_cons_succ]
          refine wpAnyH_ready (rs := [10]) (by kernel_rfl) (by simp) ?_
          refine (AllReadyH.cons (by simp only [List.getElem?_toArray, List.getElem?_cons_zero, List.getElem?_cons_succ]; rfl) (fun K hK => ?_) AllReadyH.nil)
          go_simp
          go_at_call 8
          refine (PK wq15).mono ?_
          rintro e wq17 ⟨rfl, C17⟩
          have BB17 := (BB15).trans (C17.mono (Below.size (BB15)))
          refine hK.out _ _ (SW _ BB17) (fun hH18 => ?_)
          clear hK
          try simp only [Act.put, List.setIfInBounds_toArray, List.set_cons_zero, List.set_cons_succ]
          refine wpAnyH_ready (rs := [16]) (by kernel_rfl) (by simp) ?_
          refine (AllReadyH.cons (by simp only [List.getElem?_toArray, List.getElem?_cons_zero, List.getElem?_cons_succ]; rfl) (fun K hK => ?_) AllReadyH.nil)
          go_simp
          go_at_call 19
          refine (page_any _ wq17).mono ?_
          rintro e wq19 ⟨g19, rfl, hb19, hg19, C19⟩
          have BB19 := (BB17).trans (C19.mono (Below.size (BB17)))
          refine hK.out _ _ (SW _ BB19) (fun hH20 => ?_)
          clear hK
          try simp only [Act.put, List.setIfInBounds_toArray, List.set_cons_zero, List.set_cons_succ]
          refine wpAnyH_take (i := 17) (v := ?v21) (by simp only [List.getElem?_toArray, List.getElem?_cons_zero, List.getElem?_cons_succ]; rfl) (by kernel_rfl) (by kernel_rfl) (by kernel_rfl) (by exact fun _ _ _ h => h) (Or.inl ⟨by rfl, ?h21⟩) (by assumption) ?r21
          case h21 => (intro w hSw; (try dsimp only at hSw); go_simp; try with_reducible rfl)
          try simp only [Act.put, List.setIfInBounds_toArray, List.set_cons_zero, List.set_cons_succ]
          refine wpAnyH_ready (rs := [18]) (by kernel_rfl) (by simp) ?_
          refine (AllReadyH.cons (by simp only [List.getElem?_toArray, List.getElem?_cons_zero, List.getElem?_cons_succ]; rfl) (fun K hK => ?_) AllReadyH.nil)
          go_simp
          have BB22 := (BB19).alloc (Below.size (BB19)) (.cells #[.int .i64 (nk % 14), .slice (some ⟨g19, 0, none⟩) 96 96] 47)
          refine hK.out _ _ (SW _ BB22) (fun hH23 => ?_)
          clear hK
          try simp only [Act.put, List.setIfInBounds_toArray, List.set_cons_zero, List.set_cons_succ]
          refine wpAnyH_ready (rs := [19]) (by kernel_rfl) (by simp) ?_
          refine (AllReadyH.cons (by simp only [List.getElem?_toArray, List.getElem?_cons_zero, List.getElem?_cons_succ]; rfl) (fun K hK => ?_) AllReadyH.nil)
          go_simp
          go_at_call 17
          refine (writeWet WT6.out (by omega) (by omega) (BB19) g19 (nk % 14) _ hb19 (Nat.le_trans (Below.size (BB17)) hg19) (pageE_length _) (pageE_bytes _) (by rw [hH]; omega)).mono ?_
          rintro e wz ⟨rfl, M7, B7, mb7, s7, L7, T7, W7⟩
          have SI7 := hid (SI6.out.lstep T7)
          have WT7 := hid W7
          clear T7 W7
          refine hK.out _ _ (C1.out _ SI7.out.below) (fun hHz => ?_)
          clear hK
          try simp only [Act.put, List.setIfInBounds_toArray, List.set_cons_zero, List.set_cons_succ]
          refine wpAnyH_take (i := 20) (v := ?v24) (by simp only [List.getElem?_toArray, List.getElem?_cons_zero, List.getElem?_cons_succ]; rfl) (by kernel_rfl) (by kernel_rfl) (by kernel_rfl) (by exact fun _ _ _ h => h) (Or.inl ⟨by rfl, ?h24⟩) (by assumption) ?r24
          case h24 => (intro w hSw; (try dsimp only at hSw); go_simp; try with_reducible rfl)
          try simp only [Act.put, List.setIfInBounds_toArray, List.set_cons_zero, List.set_cons_succ]
          refine wpAnyH_done (by kernel_rfl) ?_ _
          go_wp2_with fail
          go_roundw
          case measure => simp [Go.RowKit.intOf]; omega
          case rel => exact ⟨k + 1, M7, B7, mb7, s7, L7, by go_num, by omega, WT7, SI7⟩
        · obtain rfl : k = 5 := by omega
          have XN := hid AO.out.b1
          have XT := hid AO.out.b2
          have XC := hid AO.out.b3
          simp only [bdI] at XN XT XC
          have MLT : Hid (∀ q, M6.M q → q < wr.heap.size) := hid fun q hq => by
            obtain ⟨pd, -, D⟩ := WT6.out.sys.drum
            exact D.ml q hq
          have SW14 : ∀ W, Below w1.heap.size w1 W → (W.cell? ⟨sB a, sO a + i * 6 + 5, none⟩ = some (.slice ka kl kc) ∧ W.cell? ⟨sB a, sO a + i * 6 + 2, none⟩ = some (.int .i64 xt)) ∧ W.cell? ⟨sB a, sO a + i * 6 + 3, none⟩ = some (.int .i64 xc) := fun W hW => ⟨⟨C5.out W hW, C2.out W hW⟩, C3.out W hW⟩
          have SV14 : ∀ W, Below wr.heap.size wr W → (W.cell? ⟨sB a, sO a + i * 6 + 5, none⟩ = some (.slice ka kl kc) ∧ W.cell? ⟨sB a, sO a + i * 6 + 2, none⟩ = some (.int .i64 xt)) ∧ W.cell? ⟨sB a, sO a + i * 6 + 3, none⟩ = some (.int .i64 xc) := fun W hW => SW14 W (SI6.out.below.trans (hW.mono SI6.out.below.size))
          have FW : ∀ W, Below wr.heap.size wr W → Calls Try.prog 21 #[.slice ka kl kc, .int .i64 14] W fun e w' => ∃ fa fl fc ys, e = .returned (.slice fa fl fc) ∧ IntsAt w' fa fl fc ys ∧ (0 < fl → W.heap.size ≤ sB fa) ∧ Below W.heap.size W w' := fun W hW => by
            obtain ⟨k1, k2⟩ := KP.out W (SI6.out.below.trans (hW.mono SI6.out.below.size))
            exact few5_ints ka kl kc 14 kz W k1 k2 (by omega)
          have PK2 : ∀ W, Calls Try.prog 8 #[.int .i64 xt, .int .i64 14] W fun e w' => e = .returned (.int .i64 (xt % 14)) ∧ Below W.heap.size W w' := fun W => by
            refine (pick_any xt 14 W XT.out (by omega) (by omega)).mono ?_
            rintro e w' ⟨rfl, rfl⟩
            exact ⟨rfl, Below.refl _ _⟩
          have PK3 : ∀ W, Calls Try.prog 8 #[.int .i64 xc, .int .i64 97] W fun e w' => e = .returned (.int .i64 (xc % 97)) ∧ Below W.heap.size W w' := fun W => by
            refine (pick_any xc 97 W XC.out (by omega) (by omega)).mono ?_
            rintro e w' ⟨rfl, rfl⟩
            exact ⟨rfl, Below.refl _ _⟩
          go_wp2_with fail
          refine wp_region_held_drew (S := fun W => (W.cell? ⟨sB a, sO a + i * 6 + 5, none⟩ = some (.slice ka kl kc) ∧ W.cell? ⟨sB a, sO a + i * 6 + 2, none⟩ = some (.int .i64 xt)) ∧ W.cell? ⟨sB a, sO a + i * 6 + 3, none⟩ = some (.int .i64 xc)) (by kernel_rfl) (SV14 _ ((Below.refl wr.heap.size wr).drew)) (fun hHeld => ?_)
          refine wpAnyH_take (i := 0) (v := ?v25) (by simp only [List.getElem?_toArray, List.getElem?_cons_zero]; rfl) (by kernel_rfl) (by kernel_rfl) (by kernel_rfl) (by exact fun _ _ _ h => h) (Or.inl ⟨by rfl, ?h25⟩) (by assumption) ?r25
          case h25 => (intro w hSw; (try dsimp only at hSw); go_simp; try with_reducible rfl)
          try simp only [Act.put, List.setIfInBounds_toArray, List.set_cons_zero, List.set_cons_succ]
          refine wpAnyH_take (i := 1) (v := ?v26) (by simp only [List.getElem?_toArray, List.getElem?_cons_zero, List.getElem?_cons_succ]; rfl) (by kernel_rfl) (by kernel_rfl) (by kernel_rfl) (by exact fun _ _ _ h => h) (Or.inl ⟨by rfl, ?h26⟩) (by assumption) ?r26
          case h26 => (intro w hSw; (try dsimp only at hSw); go_simp; try with_reducible rfl)
          try simp only [Act.put, List.setIfInBounds_toArray, List.set_cons_zero, List.set_cons_succ]
          refine wpAnyH_take (i := 2) (v := ?v27) (by simp only [List.getElem?_toArray, List.getElem?_cons_zero, List.getElem?_cons_succ]; rfl) (by kernel_rfl) (by kernel_rfl) (by kernel_rfl) (by exact fun _ _ _ h => h) (Or.inl ⟨by rfl, ?h27⟩) (by assumption) ?r27
          case h27 => (intro w hSw; (try dsimp only at hSw); go_simp; try with_reducible rfl)
          try simp only [Act.put, List.setIfInBounds_toArray, List.set_cons_zero, List.set_cons_succ]
          refine wpAnyH_take (i := 3) (v := ?v28) (by simp only [List.getElem?_toArray, List.getElem?_cons_zero, List.getElem?_cons_succ]; rfl) (by kernel_rfl) (by kernel_rfl) (by kernel_rfl) (by exact fun _ _ _ h => h) (Or.inl ⟨by rfl, ?h28⟩) (by assumption) ?r28
          case h28 => (intro w hSw; (try dsimp only at hSw); go_simp; try with_reducible rfl)
          try simp only [Act.put, List.setIfInBounds_toArray, List.set_cons_zero, List.set_cons_succ]
          refine wpAnyH_take (i := 4) (v := ?v29) (by simp only [List.getElem?_toArray, List.getElem?_cons_zero, List.getElem?_cons_succ]; rfl) (by kernel_rfl) (by kernel_rfl) (by kernel_rfl) (by exact fun _ _ _ h => h) (Or.inl ⟨by rfl, ?h29⟩) (by assumption) ?r29
          case h29 => (intro w hSw; (try dsimp only at hSw); go_simp; try with_reducible rfl)
          try simp only [Act.put, List.setIfInBounds_toArray, List.set_cons_zero, List.set_cons_succ]
          refine wpAnyH_take (i := 5) (v := ?v30) (by simp only [List.getElem?_toArray, List.getElem?_cons_zero, List.getElem?_cons_succ]; rfl) (by kernel_rfl) (by kernel_rfl) (by kernel_rfl) (by exact fun _ _ _ h => h) (Or.inl ⟨by rfl, ?h30⟩) (by assumption) ?r30
          case h30 => (intro w hSw; (try dsimp only at hSw); go_simp; try with_reducible rfl)
          try simp only [Act.put, List.setIfInBounds_toArray, List.set_cons_zero, List.set_cons_succ]
          refine wpAnyH_take (i := 7) (v := ?v31) (by simp only [List.getElem?_toArray, List.getElem?_cons_zero, List.getElem?_cons_succ]; rfl) (by kernel_rfl) (by kernel_rfl) (by kernel_rfl) (by exact fun _ _ _ h => h) (Or.inl ⟨by rfl, ?h31⟩) (by assumption) ?r31
          case h31 => (intro w hSw; (try dsimp only at hSw); go_simp; try with_reducible rfl)
          try simp only [Act.put, List.setIfInBounds_toArray, List.set_cons_zero, List.set_cons_succ]
          refine wpAnyH_take (i := 8) (v := ?v32) (by simp only [List.getElem?_toArray, List.getElem?_cons_zero, List.getElem?_cons_succ]; rfl) (by kernel_rfl) (by kernel_rfl) (by kernel_rfl) (by exact fun _ _ _ h => h) (Or.inl ⟨by rfl, ?h32⟩) (by assumption) ?r32
          case h32 => (intro w hSw; (try dsimp only at hSw); go_simp; try with_reducible rfl)
          try simp only [Act.put, List.setIfInBounds_toArray, List.set_cons_zero, List.set_cons_succ]
          refine wpAnyH_take (i := 9) (v := ?v33) (by simp only [List.getElem?_toArray, List.getElem?_cons_zero, List.getElem?_cons_succ]; rfl) (by kernel_rfl) (by kernel_rfl) (by kernel_rfl) (by exact fun _ _ _ h => h) (Or.inl ⟨by rfl, ?h33⟩) (by assumption) ?r33
          case h33 => (intro w hSw; (try dsimp only at hSw); go_simp; try with_reducible rfl)
          try simp only [Act.put, List.setIfInBounds_toArray, List.set_cons_zero, List.set_cons_succ]
          refine wpAnyH_take (i := 10) (v := ?v34) (by simp only [List.getElem?_toArray, List.getElem?_cons_zero, List.getElem?_cons_succ]; rfl) (by kernel_rfl) (by kernel_rfl) (by kernel_rfl) (by exact fun _ _ _ h => h) (Or.inl ⟨by rfl, ?h34⟩) (by assumption) ?r34
          case h34 => (intro w hSw; (try dsimp only at hSw); go_simp; try with_reducible rfl)
          try simp only [Act.put, List.setIfInBounds_toArray, List.set_cons_zero, List.set_cons_succ]
          refine wpAnyH_take (i := 11) (v := ?v35) (by simp only [List.getElem?_toArray, List.getElem?_cons_zero, List.getElem?_cons_succ]; rfl) (by kernel_rfl) (by kernel_rfl) (by kernel_rfl) (by exact fun _ _ _ h => h) (Or.inl ⟨by rfl, ?h35⟩) (by assumption) ?r35
          case h35 => (intro w hSw; (try dsimp only at hSw); go_simp; try with_reducible rfl)
          try simp only [Act.put, List.setIfInBounds_toArray, List.set_cons_zero, List.set_cons_succ]
          refine wpAnyH_take (i := 13) (v := ?v36) (by simp only [List.getElem?_toArray, List.getElem?_cons_zero, List.getElem?_cons_succ]; rfl) (by kernel_rfl) (by kernel_rfl) (by kernel_rfl) (by exact fun _ _ _ h => h) (Or.inl ⟨by rfl, ?h36⟩) (by assumption) ?r36
          case h36 => (intro w hSw; (try dsimp only at hSw); go_simp; try with_reducible rfl)
          try simp only [Act.put, List.setIfInBounds_toArray, List.set_cons_zero, List.set_cons_succ]
          refine wpAnyH_take (i := 14) (v := ?v37) (by simp only [List.getElem?_toArray, List.getElem?_cons_zero, List.getElem?_cons_succ]; rfl) (by kernel_rfl) (by kernel_rfl) (by kernel_rfl) (by exact fun _ _ _ h => h) (Or.inl ⟨by rfl, ?h37⟩) (by assumption) ?r37
          case h37 => (intro w hSw; (try dsimp only at hSw); go_simp; try with_reducible rfl)
          try simp only [Act.put, List.setIfInBounds_toArray, List.set_cons_zero, List.set_cons_succ]
          refine wpAnyH_take (i := 15) (v := ?v38) (by simp only [List.getElem?_toArray, List.getElem?_cons_zero, List.getElem?_cons_succ]; rfl) (by kernel_rfl) (by kernel_rfl) (by kernel_rfl) (by exact fun _ _ _ h => h) (Or.inl ⟨by rfl, ?h38⟩) (by assumption) ?r38
          case h38 => (intro w hSw; (try dsimp only at hSw); go_simp; try with_reducible rfl)
          try simp only [Act.put, List.setIfInBounds_toArray, List.set_cons_zero, List.set_cons_succ]
          refine wpAnyH_take (i := 16) (v := ?v39) (by simp only [List.getElem?_toArray, List.getElem?_cons_zero, List.getElem?_cons_succ]; rfl) (by kernel_rfl) (by kernel_rfl) (by kernel_rfl) (by exact fun _ _ _ h => h) (Or.inl ⟨by rfl, ?h39⟩) (by assumption) ?r39
          case h39 => (intro w hSw; (try dsimp only at hSw); go_simp; try with_reducible rfl)
          try simp only [Act.put, List.setIfInBounds_toArray, List.set_cons_zero, List.set_cons_succ]
          refine wpAnyH_take (i := 17) (v := ?v40) (by simp only [List.getElem?_toArray, List.getElem?_cons_zero, List.getElem?_cons_succ]; rfl) (by kernel_rfl) (by kernel_rfl) (by kernel_rfl) (by exact fun _ _ _ h => h) (Or.inl ⟨by rfl, ?h40⟩) (by assumption) ?r40
          case h40 => (intro w hSw; (try dsimp only at hSw); go_simp; try with_reducible rfl)
          try simp only [Act.put, List.setIfInBounds_toArray, List.set_cons_zero, List.set_cons_succ]
          refine wpAnyH_ready (rs := [6]) (by kernel_rfl) (by simp) ?_
          refine (AllReadyH.cons (by simp only [List.getElem?_toArray, List.getElem?_cons_zero, List.getElem?_cons_succ]; rfl) (fun K hK => ?_) AllReadyH.nil)
          go_simp
          go_at_call 21
          refine (FW _ ((Below.refl wr.heap.size wr).drew)).mono ?_
          rintro e wq41 ⟨fa41, fl41, fc41, ys41, rfl, fi41, fn41, C41⟩
          have BB41 := ((Below.refl wr.heap.size wr).drew).trans (C41.mono (Below.size ((Below.refl wr.heap.size wr).drew)))
          refine hK.out _ _ (SV14 _ BB41) (fun hH42 => ?_)
          clear hK
          try simp only [Act.put, List.setIfInBounds_toArray, List.set_cons_zero, List.set_cons_succ]
          refine wpAnyH_ready (rs := [12]) (by kernel_rfl) (by simp) ?_
          refine (AllReadyH.cons (by simp only [List.getElem?_toArray, List.getElem?_cons_zero, List.getElem?_cons_succ]; rfl) (fun K hK => ?_) AllReadyH.nil)
          go_simp
          go_at_call 8
          refine (PK2 wq41).mono ?_
          rintro e wq43 ⟨rfl, C43⟩
          have BB43 := (BB41).trans (C43.mono (Below.size (BB41)))
          refine hK.out _ _ (SV14 _ BB43) (fun hH44 => ?_)
          clear hK
          try simp only [Act.put, List.setIfInBounds_toArray, List.set_cons_zero, List.set_cons_succ]
          refine wpAnyH_ready (rs := [18]) (by kernel_rfl) (by simp) ?_
          refine (AllReadyH.cons (by simp only [List.getElem?_toArray, List.getElem?_cons_zero, List.getElem?_cons_succ]; rfl) (fun K hK => ?_) AllReadyH.nil)
          go_simp
          go_at_call 8
          refine (PK3 wq43).mono ?_
          rintro e wq45 ⟨rfl, C45⟩
          have BB45 := (BB43).trans (C45.mono (Below.size (BB43)))
          refine hK.out _ _ (SV14 _ BB45) (fun hH46 => ?_)
          clear hK
          try simp only [Act.put, List.setIfInBounds_toArray, List.set_cons_zero, List.set_cons_succ]
          refine wpAnyH_ready (rs := [19]) (by kernel_rfl) (by simp) ?_
          refine (AllReadyH.cons (by simp only [List.getElem?_toArray, List.getElem?_cons_zero, List.getElem?_cons_succ]; rfl) (fun K hK => ?_) AllReadyH.nil)
          go_simp
          go_at_call 20
          refine (fallWet (WT6.out.below (BB45)) fa41 fl41 fc41 ys41 (xt % 14) (xc % 97) (((fi41).below C43 (Nat.le_refl _)).below C45 (Nat.le_refl _)) (fun h0 hm => ?_)).mono ?_
          · have q1 := MLT.out _ hm
            have q2 := fn41 h0
            have q3 := Below.size ((Below.refl wr.heap.size wr).drew)
            omega
          rintro e wz ⟨rfl, M7, F7, S7⟩
          have SI7 := hid ((SI6.out.to (BB45)).step S7).forget
          have FE7 := hid F7
          clear F7 S7
          refine hK.out _ _ (SW14 _ SI7.out.below) (fun hHz => ?_)
          clear hK
          try simp only [Act.put, List.setIfInBounds_toArray, List.set_cons_zero, List.set_cons_succ]
          refine wpAnyH_done (by kernel_rfl) ?_ _
          go_wp2_with fail
          refine (openFell FE7.out (by omega)).mono ?_
          rintro e w8 ⟨M8, B8', l8, mb8, s8, L8, V8, rfl, T8, LV8, -, -⟩
          have SI8 := hid (SI7.out.lstep T8)
          have L8H := hid LV8
          clear LV8 T8
          have HO8 : ∀ W, Below w8.heap.size w8 W → Calls Try.prog 11 #[.pointer (some ⟨l8, 0, none⟩)] W fun e w' => e = .returned (.int .i64 14) ∧ Below W.heap.size W w' := fun W hW => by
            have := homeU (L8H.out.below hW)
            rw [hH] at this
            refine this.mono ?_
            rintro e w' ⟨rfl, rfl⟩
            exact ⟨rfl, Below.refl _ _⟩
          obtain ⟨q3, hq3⟩ : ∃ q3, xn.tdiv 3 = q3 := ⟨_, rfl⟩
          have hq3b : -9223372036854775808 ≤ q3 ∧ q3 ≤ 9223372036854775807 := by
            have h0 := XN.out
            rw [← hq3]
            rcases Int.le_total 0 xn with h | h
            · rw [Int.tdiv_eq_ediv_of_nonneg h]; omega
            · have h4 : xn.tdiv 3 = -((-xn).tdiv 3) := by rw [Int.neg_tdiv, Int.neg_neg]
              rw [h4, Int.tdiv_eq_ediv_of_nonneg (by omega)]; omega
          have hwq : IntKind.i64.wrap q3 = q3 := by rw [IntKind.wrap_i64]; omega
          have PK8 : ∀ W, Calls Try.prog 8 #[.int .i64 q3, .int .i64 14] W fun e w' => e = .returned (.int .i64 (q3 % 14)) ∧ Below W.heap.size W w' := fun W => by
            refine (pick_any q3 14 W hq3b (by omega) (by omega)).mono ?_
            rintro e w' ⟨rfl, rfl⟩
            exact ⟨rfl, Below.refl _ _⟩
          have SW8 : ∀ W, Below w8.heap.size w8 W → W.cell? ⟨sB a, sO a + i * 6 + 1, none⟩ = some (.int .i64 xn) := fun W hW => C1.out W (SI8.out.below.trans (hW.mono SI8.out.below.size))
          go_wp2_with fail
          refine wp_region_held_drew (S := fun W => W.cell? ⟨sB a, sO a + i * 6 + 1, none⟩ = some (.int .i64 xn)) (by kernel_rfl) (SW8 _ ((Below.refl w8.heap.size w8).drew)) (fun hHeld => ?_)
          refine wpAnyH_take (i := 0) (v := ?v47) (by simp only [List.getElem?_toArray, List.getElem?_cons_zero]; rfl) (by kernel_rfl) (by kernel_rfl) (by kernel_rfl) (by exact fun _ _ _ h => h) (Or.inl ⟨by rfl, ?h47⟩) (by assumption) ?r47
          case h47 => (intro w hSw; (try dsimp only at hSw); go_simp; try with_reducible rfl)
          try simp only [Act.put, List.setIfInBounds_toArray, List.set_cons_zero, List.set_cons_succ]
          refine wpAnyH_take (i := 1) (v := ?v48) (by simp only [List.getElem?_toArray, List.getElem?_cons_zero, List.getElem?_cons_succ]; rfl) (by kernel_rfl) (by kernel_rfl) (by kernel_rfl) (by exact fun _ _ _ h => h) (Or.inl ⟨by rfl, ?h48⟩) (by assumption) ?r48
          case h48 => (intro w hSw; (try dsimp only at hSw); go_simp; try with_reducible rfl)
          try simp only [Act.put, List.setIfInBounds_toArray, List.set_cons_zero, List.set_cons_succ]
          refine wpAnyH_take (i := 2) (v := ?v49) (by simp only [List.getElem?_toArray, List.getElem?_cons_zero, List.getElem?_cons_succ]; rfl) (by kernel_rfl) (by kernel_rfl) (by kernel_rfl) (by exact fun _ _ _ h => h) (Or.inl ⟨by rfl, ?h49⟩) (by assumption) ?r49
          case h49 => (intro w hSw; (try dsimp only at hSw); go_simp; try with_reducible rfl)
          try simp only [Act.put, List.setIfInBounds_toArray, List.set_cons_zero, List.set_cons_succ]
          refine wpAnyH_take (i := 3) (v := ?v50) (by simp only [List.getElem?_toArray, List.getElem?_cons_zero, List.getElem?_cons_succ]; rfl) (by kernel_rfl) (by kernel_rfl) (by kernel_rfl) (by exact fun _ _ _ h => h) (Or.inl ⟨by rfl, ?h50⟩) (by assumption) ?r50
          case h50 => (intro w hSw; (try dsimp only at hSw); go_simp; try with_reducible rfl)
          try simp only [Act.put, List.setIfInBounds_toArray, List.set_cons_zero, List.set_cons_succ]
          refine wpAnyH_take (i := 4) (v := ?v51) (by simp only [List.getElem?_toArray, List.getElem?_cons_zero, List.getElem?_cons_succ]; rfl) (by kernel_rfl) (by kernel_rfl) (by kernel_rfl) (by exact fun _ _ _ h => h) (Or.inl ⟨by rfl, ?h51⟩) (by assumption) ?r51
          case h51 => (intro w hSw; (try dsimp only at hSw); go_simp; try with_reducible rfl)
          try simp only [Act.put, List.setIfInBounds_toArray, List.set_cons_zero, List.set_cons_succ]
          refine wpAnyH_take (i := 5) (v := ?v52) (by simp only [List.getElem?_toArray, List.getElem?_cons_zero, List.getElem?_cons_succ]; rfl) (by kernel_rfl) (by kernel_rfl) (by kernel_rfl) (by exact fun _ _ _ h => h) (Or.inl ⟨by rfl, ?h52⟩) (by assumption) ?r52
          case h52 => (intro w hSw; (try dsimp only at hSw); go_simp; try with_reducible rfl)
          try simp only [Act.put, List.setIfInBounds_toArray, List.set_cons_zero, List.set_cons_succ]
          refine wpAnyH_take (i := 6) (v := ?v53) (by simp only [List.getElem?_toArray, List.getElem?_cons_zero, List.getElem?_cons_succ]; rfl) (by kernel_rfl) (by kernel_rfl) (by kernel_rfl) (by exact fun _ _ _ h => h) (Or.inl ⟨by rfl, ?h53⟩) (by assumption) ?r53
          case h53 => (intro w hSw; (try dsimp only at hSw); go_simp; try with_reducible rfl)
          try simp only [Act.put, List.setIfInBounds_toArray, List.set_cons_zero, List.set_cons_succ]
          refine wpAnyH_ready (rs := [7]) (by kernel_rfl) (by simp) ?_
          refine (AllReadyH.cons (by simp only [List.getElem?_toArray, List.getElem?_cons_zero, List.getElem?_cons_succ]; rfl) (fun K hK => ?_) AllReadyH.nil)
          go_simp
          go_at_call 11
          refine (HO8 _ ((Below.refl w8.heap.size w8).drew)).mono ?_
          rintro e wq54 ⟨rfl, C54⟩
          have BB54 := ((Below.refl w8.heap.size w8).drew).trans (C54.mono (Below.size ((Below.refl w8.heap.size w8).drew)))
          refine hK.out _ _ (SW8 _ BB54) (fun hH55 => ?_)
          clear hK
          try simp only [Act.put, List.setIfInBounds_toArray, List.set_cons_zero, List.set_cons_succ]
          refine wpAnyH_ready (rs := [8]) (by kernel_rfl) (by simp) ?_
          refine (AllReadyH.cons (by simp only [List.getElem?_toArray, List.getElem?_cons_zero, List.getElem?_cons_succ]; rfl) (fun K hK => ?_) AllReadyH.nil)
          go_simp
          go_at_call 8
          refine (PK8 wq54).mono ?_
          rintro e wq56 ⟨rfl, C56⟩
          have BB56 := (BB54).trans (C56.mono (Below.size (BB54)))
          refine hK.out _ _ (SW8 _ BB56) (fun hH57 => ?_)
          clear hK
          try simp only [Act.put, List.setIfInBounds_toArray, List.set_cons_zero, List.set_cons_succ]
          refine wpAnyH_take (i := 9) (v := ?v58) (by simp only [List.getElem?_toArray, List.getElem?_cons_zero, List.getElem?_cons_succ]; rfl) (by kernel_rfl) (by kernel_rfl) (by kernel_rfl) (by exact fun _ _ _ h => h) (Or.inl ⟨by rfl, ?h58⟩) (by assumption) ?r58
          case h58 => (intro w hSw; (try dsimp only at hSw); go_simp; try with_reducible rfl)
          try simp only [Act.put, List.setIfInBounds_toArray, List.set_cons_zero, List.set_cons_succ]
          refine wpAnyH_take (i := 10) (v := ?v59) (by simp only [List.getElem?_toArray, List.getElem?_cons_zero, List.getElem?_cons_succ]; rfl) (by kernel_rfl) (by kernel_rfl) (by kernel_rfl) (by exact fun _ _ _ h => h) (Or.inl ⟨by rfl, ?h59⟩) (by assumption) ?r59
          case h59 => (intro w hSw; (try dsimp only at hSw); go_simp; try with_reducible rfl)
          try simp only [Act.put, List.setIfInBounds_toArray, List.set_cons_zero, List.set_cons_succ]
          refine wpAnyH_done (by kernel_rfl) ?_ _
          obtain ⟨kk, hkk, hkl⟩ : ∃ kk : Nat, q3 % 14 = kk ∧ kk < 14 := ⟨(q3 % 14).toNat, by omega, by omega⟩
          have hw9 : IntKind.i64.wrap ((kk : Int) * 96) = ((kk * 96 : Nat) : Int) := by rw [IntKind.wrap_i64]; omega
          rw [hkk, hw9]
          have HS := homeS_any (L8H.out.below (BB56)) (by omega) (by omega)
          rw [hH] at HS
          have SI9 := hid (SI8.out.to (BB56))
          clear hw9 hkk HO8 PK8 SW8
          go_wp2_with fail
          refine HS.mono ?_
          rintro e w10 ⟨rfl, LV10, T10⟩
          have SI10 := hid (SI9.out.lstep T10)
          have L10 := hid LV10
          have WF10 : Hid (∀ j, j < 14 → (V8 j).length = 96 ∧ IsBytes (V8 j)) := hid fun j hj => LV10.wf (by rw [hH]; exact hj)
          clear HS LV10 T10
          have tl : (textN 14 V8).length = 14 * 96 := textN_length fun j hj => (WF10.out j hj).1
          have sz1 : (strOfNums (textN 14 V8)).size = 1344 := by rw [strOfNums_size, tl]
          obtain ⟨tx, htx⟩ : ∃ tx, strOfNums (textN 14 V8) = tx := ⟨_, rfl⟩
          obtain ⟨TA, hTA⟩ : ∃ TA, (textN 14 V8).take (kk * 96) = TA := ⟨_, rfl⟩
          obtain ⟨TC, hTC⟩ : ∃ TC, (textN 14 V8).drop (kk * 96 + 96) = TC := ⟨_, rfl⟩
          have ex1 : tx.extract 0 (kk * 96) = strOfNums TA := by rw [← htx, ← hTA]; exact str_take _ _
          have ex2 : tx.extract (kk * 96 + 96) 1344 = strOfNums TC := by rw [← htx, ← hTC]; exact str_drop _ _ _ (by rw [tl]; exact Nat.le_refl _)
          have la : TA.length = kk * 96 := by rw [← hTA, List.length_take, tl]; omega
          have lc : TC.length = 1248 - kk * 96 := by rw [← hTC, List.length_drop, tl]; omega
          have TS : Hid (TA ++ pageE (200 + (i : Int)) ++ TC = textN 14 fun j => if j = kk then pageE (200 + (i : Int)) else V8 j) := hid (by rw [← hTA, ← hTC]; exact textN_set (fun j hj => (WF10.out j hj).1) hkl)
          rw [htx] at sz1
          rw [htx]
          obtain ⟨tA, htA⟩ : ∃ tA, strOfNums TA = tA := ⟨_, rfl⟩
          obtain ⟨tC, htC⟩ : ∃ tC, strOfNums TC = tC := ⟨_, rfl⟩
          obtain ⟨tz, htz⟩ : ∃ tz, strOfNums (pageE (200 + (i : Int))) = tz := ⟨_, rfl⟩
          obtain ⟨tAz, htAz⟩ : ∃ tAz, tA ++ tz = tAz := ⟨_, rfl⟩
          obtain ⟨tW, htW⟩ : ∃ tW, tAz ++ tC = tW := ⟨_, rfl⟩
          have eW : Hid (tW = strOfNums (textN 14 fun j => if j = kk then pageE (200 + (i : Int)) else V8 j)) := hid (by rw [← htW, ← htAz, ← htA, ← htz, ← htC, str_append, str_append, TS.out])
          have szA : tA.size = kk * 96 := by rw [← htA, strOfNums_size, la]
          have szC : tC.size = 1248 - kk * 96 := by rw [← htC, strOfNums_size, lc]
          have szz : tz.size = 96 := by rw [← htz, strOfNums_size, pageE_length]
          have szAz : tAz.size = kk * 96 + 96 := by rw [← htAz, ByteArray.size_append, szA, szz]
          rw [htA] at ex1
          rw [htC] at ex2
          clear htx hTA hTC la lc TS tl htA htC
          have hkz : (kk : Int) * 96 + 96 ≤ 1344 := by omega
          have hs1 : 0 ≤ (kk : Int) * 96 := by omega
          have hs2 : (kk : Int) * 96 ≤ 1344 := by omega
          have hs3 : 0 ≤ (kk : Int) * 96 + 96 := by omega
          have hwk : IntKind.i64.wrap ((kk : Int) * 96 + 96) = (kk : Int) * 96 + 96 := by rw [IntKind.wrap_i64]; omega
          have hwi : IntKind.i64.wrap (200 + (i : Int)) = 200 + (i : Int) := by rw [IntKind.wrap_i64]; omega
          have hsz1 : ¬ (9223372036854775807 < kk * 96 + 96) := by omega
          have hsz2 : ¬ (9223372036854775807 < kk * 96 + 96 + (1248 - kk * 96)) := by omega
          have ht1 : ((kk : Int) * 96).toNat = kk * 96 := by omega
          have ht2 : ((kk : Int) * 96 + 96).toNat = kk * 96 + 96 := by omega
          have SW22 : ∀ W, Below w10.heap.size w10 W → True := fun _ _ => trivial
          go_wp2_with fail
          refine wp_region_held_drew (S := fun _ => True) (by kernel_rfl) (SW22 _ ((Below.refl w10.heap.size w10).drew)) (fun hHeld => ?_)
          refine wpAnyH_take (i := 0) (v := ?v60) (by simp only [List.getElem?_toArray, List.getElem?_cons_zero]; rfl) (by kernel_rfl) (by kernel_rfl) (by kernel_rfl) (by exact fun _ _ _ h => h) (Or.inl ⟨by rfl, ?h60⟩) (by assumption) ?r60
          case h60 => (intro w hSw; (try dsimp only at hSw); go_simp; try with_reducible rfl)
          try simp only [Act.put, List.setIfInBounds_toArray, List.set_cons_zero, List.set_cons_succ]
          refine wpAnyH_take (i := 1) (v := ?v61) (by simp only [List.getElem?_toArray, List.getElem?_cons_zero, List.getElem?_cons_succ]; rfl) (by kernel_rfl) (by kernel_rfl) (by kernel_rfl) (by exact fun _ _ _ h => h) (Or.inl ⟨by rfl, ?h61⟩) (by assumption) ?r61
          case h61 => (intro w hSw; (try dsimp only at hSw); go_simp; try with_reducible rfl)
          try simp only [Act.put, List.setIfInBounds_toArray, List.set_cons_zero, List.set_cons_succ]
          refine wpAnyH_take (i := 2) (v := ?v62) (by simp only [List.getElem?_toArray, List.getElem?_cons_zero, List.getElem?_cons_succ]; rfl) (by kernel_rfl) (by kernel_rfl) (by kernel_rfl) (by exact fun _ _ _ h => h) (Or.inl ⟨by rfl, ?h62⟩) (by assumption) ?r62
          case h62 => (intro w hSw; (try dsimp only at hSw); go_simp; try with_reducible rfl)
          try simp only [Act.put, List.setIfInBounds_toArray, List.set_cons_zero, List.set_cons_succ]
          refine wpAnyH_take (i := 3) (v := ?v63) (by simp only [List.getElem?_toArray, List.getElem?_cons_zero, List.getElem?_cons_succ]; rfl) (by kernel_rfl) (by kernel_rfl) (by kernel_rfl) (by exact fun _ _ _ h => h) (Or.inl ⟨by rfl, ?h63⟩) (by assumption) ?r63
          case h63 => (intro w hSw; (try dsimp only at hSw); go_simp; try with_reducible rfl)
          try simp only [Act.put, List.setIfInBounds_toArray, List.set_cons_zero, List.set_cons_succ]
          refine wpAnyH_take (i := 4) (v := ?v64) (by simp only [List.getElem?_toArray, List.getElem?_cons_zero, List.getElem?_cons_succ]; rfl) (by kernel_rfl) (by kernel_rfl) (by kernel_rfl) (by exact fun _ _ _ h => h) (Or.inl ⟨by rfl, ?h64⟩) (by assumption) ?r64
          case h64 => (intro w hSw; (try dsimp only at hSw); go_simp; try with_reducible rfl)
          try simp only [Act.put, List.setIfInBounds_toArray, List.set_cons_zero, List.set_cons_succ]
          refine wpAnyH_take (i := 8) (v := ?v65) (by simp only [List.getElem?_toArray, List.getElem?_cons_zero, List.getElem?_cons_succ]; rfl) (by kernel_rfl) (by kernel_rfl) (by kernel_rfl) (by exact fun _ _ _ h => h) (Or.inl ⟨by rfl, ?h65⟩) (by assumption) ?r65
          case h65 => (intro w hSw; (try dsimp only at hSw); go_simp; try with_reducible rfl)
          try simp only [Act.put, List.setIfInBounds_toArray, List.set_cons_zero, List.set_cons_succ]
          refine wpAnyH_take (i := 9) (v := ?v66) (by simp only [List.getElem?_toArray, List.getElem?_cons_zero, List.getElem?_cons_succ]; rfl) (by kernel_rfl) (by kernel_rfl) (by kernel_rfl) (by exact fun _ _ _ h => h) (Or.inl ⟨by rfl, ?h66⟩) (by assumption) ?r66
          case h66 => (intro w hSw; (try dsimp only at hSw); go_simp; try with_reducible rfl)
          try simp only [Act.put, List.setIfInBounds_toArray, List.set_cons_zero, List.set_cons_succ]
          refine wpAnyH_take (i := 10) (v := ?v67) (by simp only [List.getElem?_toArray, List.getElem?_cons_zero, List.getElem?_cons_succ]; rfl) (by kernel_rfl) (by kernel_rfl) (by kernel_rfl) (by exact fun _ _ _ h => h) (Or.inl ⟨by rfl, ?h67⟩) (by assumption) ?r67
          case h67 => (intro w hSw; (try dsimp only at hSw); go_simp; try with_reducible rfl)
          try simp only [Act.put, List.setIfInBounds_toArray, List.set_cons_zero, List.set_cons_succ]
          refine wpAnyH_take (i := 11) (v := ?v68) (by simp only [List.getElem?_toArray, List.getElem?_cons_zero, List.getElem?_cons_succ]; rfl) (by kernel_rfl) (by kernel_rfl) (by kernel_rfl) (by exact fun _ _ _ h => h) (Or.inl ⟨by rfl, ?h68⟩) (by assumption) ?r68
          case h68 => (intro w hSw; (try dsimp only at hSw); go_simp; try with_reducible rfl)
          try simp only [Act.put, List.setIfInBounds_toArray, List.set_cons_zero, List.set_cons_succ]
          refine wpAnyH_ready (rs := [5]) (by kernel_rfl) (by simp) ?_
          refine (AllReadyH.cons (by simp only [List.getElem?_toArray, List.getElem?_cons_zero, List.getElem?_cons_succ]; rfl) (fun K hK => ?_) AllReadyH.nil)
          go_simp
          go_at_call 19
          refine (page_any _ w10.drew).mono ?_
          rintro e wq69 ⟨g69, rfl, hb69, hg69, C69⟩
          have BB69 := ((Below.refl w10.heap.size w10).drew).trans (C69.mono (Below.size ((Below.refl w10.heap.size w10).drew)))
          refine hK.out _ _ (SW22 _ BB69) (fun hH70 => ?_)
          clear hK
          try simp only [Act.put, List.setIfInBounds_toArray, List.set_cons_zero, List.set_cons_succ]
          refine wpAnyH_ready (rs := [6]) (by kernel_rfl) (by simp) ?_
          refine (AllReadyH.cons (by simp only [List.getElem?_toArray, List.getElem?_cons_zero, List.getElem?_cons_succ]; rfl) (fun K hK => ?_) AllReadyH.nil)
          have kc71 := conv_row (P := Try.prog) Try.underlying33 Try.underlying5 Try.underlying9 96 (row_blk hb69) (pageE_length _)
          rw [htz] at kc71
          go_simp
          refine hK.out _ _ (SW22 _ BB69) (fun hH72 => ?_)
          clear hK
          try simp only [Act.put, List.setIfInBounds_toArray, List.set_cons_zero, List.set_cons_succ]
          refine wpAnyH_take (i := 7) (v := ?v73) (by simp only [List.getElem?_toArray, List.getElem?_cons_zero, List.getElem?_cons_succ]; rfl) (by kernel_rfl) (by kernel_rfl) (by kernel_rfl) (by exact fun _ _ _ h => h) (Or.inl ⟨by rfl, ?h73⟩) (by assumption) ?r73
          case h73 => (intro w hSw; (try dsimp only at hSw); go_simp; try with_reducible rfl)
          try simp only [Act.put, List.setIfInBounds_toArray, List.set_cons_zero, List.set_cons_succ]
          refine wpAnyH_take (i := 12) (v := ?v74) (by simp only [List.getElem?_toArray, List.getElem?_cons_zero, List.getElem?_cons_succ]; rfl) (by kernel_rfl) (by kernel_rfl) (by kernel_rfl) (by exact fun _ _ _ h => h) (Or.inl ⟨by rfl, ?h74⟩) (by assumption) ?r74
          case h74 => (intro w hSw; (try dsimp only at hSw); go_simp; try with_reducible rfl)
          try simp only [Act.put, List.setIfInBounds_toArray, List.set_cons_zero, List.set_cons_succ]
          refine wpAnyH_take (i := 13) (v := ?v75) (by simp only [List.getElem?_toArray, List.getElem?_cons_zero, List.getElem?_cons_succ]; rfl) (by kernel_rfl) (by kernel_rfl) (by kernel_rfl) (by exact fun _ _ _ h => h) (Or.inl ⟨by rfl, ?h75⟩) (by assumption) ?r75
          case h75 => (intro w hSw; (try dsimp only at hSw); go_simp; try with_reducible rfl)
          try simp only [Act.put, List.setIfInBounds_toArray, List.set_cons_zero, List.set_cons_succ]
          refine wpAnyH_done (by kernel_rfl) ?_ _
          have SI11 := hid (SI10.out.to (BB69))
          have L11 := hid (L10.out.below (BB69))
          clear SI10 L10
          have hdv : ((kk : Int) * 96).tdiv 96 = (kk : Int) := by rw [Int.tdiv_eq_ediv_of_nonneg (by omega)]; omega
          clear ex1 ex2 htAz htW szA szC szz szAz htz sz1
          have PG := fun W => page_any (200 + (i : Int)) W
          go_wp2_with fail
          refine (PG _).mono ?_
          rintro e w12 ⟨g12, rfl, hb12, hg12, B12⟩
          clear PG
          have HB12 := hid hb12
          have HG12 := hid hg12
          have WO := writeOne L11.out (by omega) B12 g12 (kk : Int) _ HB12.out HG12.out (pageE_length _) (pageE_bytes _) (by rw [hH]; omega)
          clear hb12 hg12 B12
          go_wp2_with fail
          refine WO.mono ?_
          rintro e w13 ⟨rfl, M13, B13, mb13, s13, L13, T13, LV13⟩
          have SI13 := hid (SI11.out.lstep T13)
          have ST := settleU LV13
          clear WO T13
          go_wp2_with fail
          refine ST.mono ?_
          rintro e w14 ⟨rfl, M14, B14, mb14, s14, T14, LV14, Q14⟩
          have SI14 := hid (SI13.out.lstep T14)
          have FL := fallU LV14 Q14 none 0 0 [] (-1) 0 (IntsAt.none _) (fun h => by omega)
          clear ST T14 LV13
          go_wp2_with fail
          refine FL.mono ?_
          rintro e w15 ⟨rfl, M15, s15, D15, S15, ⟨P15, g15⟩, hn15, hl15, hv15, hu15, hr15, v15⟩
          have SI15 := hid (SI14.out.step S15).forget
          have OP := openU D15 g15 hl15 hn15 hv15 hu15 hr15 v15 (by omega)
          clear FL D15 S15 g15 hl15 hn15 hv15 hu15 hr15 v15 LV14 Q14
          go_wp2_with fail
          refine OP.mono ?_
          rintro e w16 ⟨M16, B16, l16, mb16, s16, L16, rfl, T16, LV16, Q16, U16⟩
          have SI16 := hid (SI15.out.lstep T16)
          have HS16 := homeS_any LV16 (by omega) (by omega)
          rw [hH] at HS16
          have eW16 : strOfNums (textN 14 fun j => if (j : Int) = (kk : Int) then pageE (200 + (i : Int)) else V8 j) = tW := by
            rw [eW.out]
            congr 2
            funext j
            by_cases hj : j = kk
            · rw [if_pos hj, if_pos (by rw [hj])]
            · rw [if_neg hj, if_neg (by omega)]
          rw [eW16] at HS16
          have Q16H := hid Q16
          have U16H := hid U16
          clear OP T16 eW16 LV16 Q16 U16
          go_wp2_with fail
          refine HS16.mono ?_
          rintro e w17 ⟨rfl, LV17, T17⟩
          have SI17 := hid (SI16.out.lstep T17)
          have L17 : Hid (Live w17 M16 B16 d l16 mb16 32 16 (3 * (i + 1)) _ s16 L16) := hid (LV17.le (by omega))
          clear HS16 LV17 T17
          go_wp2_with fail
          go_roundw
          case measure => simp [Go.RowKit.intOf]; omega
          case rel => exact ⟨i + 1, M16, B16, l16, mb16, s16, L16, _, rfl, by go_num, by omega, by omega, L17, Q16H, U16H, SI17⟩
    · have BF := B1.trans ((SI5.out.below).mono B1.size)
      by_cases h1 : i < len
      · obtain rfl : i = 9 := by omega
        have h2 : (9 : Int) < (len : Int) := by omega
        go_wp2_with fail
        go_ret
        exact ⟨rfl, BF⟩
      · obtain rfl : i = len := by omega
        go_wp2_with fail
        go_ret
        exact ⟨rfl, BF⟩

end Go.Proofs.Ytddcggdbnhmoiaa
