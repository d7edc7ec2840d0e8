/- SccLeads: the walk -/
import Derived.Test.YtfkooghdfidnpaaLeadsW
open Go Go.RowKit
namespace Go.Proofs.Ytfkooghdfidnpaa
open Tj

theorem part_le {n : Nat} {E : Nat → List Nat} {p : Nat → Nat} (h : IsPart n E p) {i : Nat} (hi : i < n) : p i ≤ i := (h i hi).2.2 i (.refl _) (.refl _)
theorem part_part {n : Nat} {E : Nat → List Nat} {p : Nat → Nat} (hE : ∀ v, ∀ u ∈ E v, u < n) (h : IsPart n E p) {i : Nat} (hi : i < n) : p (p i) = p i :=
  (h.eq hE (Rch.lt hE hi (h i hi).1) hi).2 ⟨(h i hi).2.1, (h i hi).1⟩

set_option maxRecDepth 100000 in
set_option maxHeartbeats 8000000 in
theorem sccLeads_walk (a : Option Addr) (len cap : Nat) (w : World) (hR : RowsIn w a len) (hlb : len ≤ 9223372036854775807) :
    Calls Try.prog 3 #[.slice a len cap] w fun e w' => e = .returned (.bool true) ∧ Below w.heap.size w w' := by
  go_enter Try.func3, Try.ntmps3
  go_wp2_with fail
  refine (known20_any w).mono ?_
  rintro e w1 ⟨rfl, B1⟩
  go_wp2_with fail
  refine (edges_any a len cap 14 w1 (hR.below B1 (Nat.le_refl _)) (by decide) hlb).mono ?_
  rintro e w2 ⟨ea, n, ec, LL, rfl, hLn, hn, ED, H4, B2⟩
  obtain ⟨L, hL⟩ : ∃ L : Nat → List Int, (fun v => LL[v]?.getD []) = L := ⟨_, rfl⟩
  rw [hL] at ED
  clear hL hLn H4
  go_wp2_with fail
  refine (parts_any ea n ec L w2 ED (by omega)).mono ?_
  rintro e w3 ⟨gp, p, rfl, hp, IP, hgp, B3⟩
  have ED3 := ED.below B3 (Nat.le_refl _)
  have IP := hid IP
  go_wp2_with fail
  refine (back_any ea n ec L w3 ED3 (by omega)).mono ?_
  rintro e w4 ⟨gb, o, rfl, hb, HO, hgb, B4⟩
  have HO := hid HO
  go_wp2_with fail
  refine (known20_any w4).mono ?_
  rintro e w5 ⟨rfl, B5⟩
  have B02 : Below w.heap.size w w2 := B1.trans (B2.mono B1.size)
  have s02 := B02.size
  have B03 : Below w.heap.size w w3 := B02.trans (B3.mono (by omega))
  have s03 := B03.size
  have B04 : Below w.heap.size w w4 := B03.trans (B4.mono (by omega))
  have s04 := B04.size
  have B05 : Below w.heap.size w w5 := B04.trans (B5.mono (by omega))
  have hp5 : w5.heap[gp]? = some (.cells (tab n p).toArray 3 (0, 0)) := (B5.block gp (by have := lt_of_blk hp; have := B4.size; omega)).trans ((B4.block gp (lt_of_blk hp)).trans hp)
  have hb5 : w5.heap[gb]? = some (.cells (tabB n o).toArray 4 (0, 0)) := (B5.block gb (lt_of_blk hb)).trans hb
  have ED5 := (ED3.below B4 (Nat.le_refl _)).below B5 (Nat.le_refl _)
  have hgp5 := lt_of_blk hp5
  have hgb5 := lt_of_blk hb5
  have HLE := hid (edgeE_lt n L)
  clear hp hb B1 B2 B3 B4 B5 B02 B03 B04 ED ED3
  go_wp2_with fail
  go_loopw [35] (fun v wr => ∃ i : Nat, v = .int .i64 i ∧ i ≤ n ∧ Below w5.heap.size w5 wr) (fun v _ => n - (intOf v).toNat)
  case atStart => exact ⟨0, rfl, Nat.zero_le _, Below.refl _ _⟩
  case round =>
    obtain ⟨i, rfl, hi, B⟩ := hrel
    have hsr : w5.heap.size ≤ wr.heap.size := B.size
    by_cases hin : i < n
    · have EDr := ED5.below B (Nat.le_refl _)
      go_wp2_with fail
      refine (leads_any ea n ec L i wr EDr (by omega) hin).mono ?_
      rintro e w6 ⟨gt, f, rfl, ht, HF, hgt, B6⟩
      have HF := hid HF
      have hs6 : wr.heap.size ≤ w6.heap.size := B6.size
      have hp6 := (B6.block gp (by omega)).trans ((B.block gp hgp5).trans hp5)
      have hb6 := (B6.block gb (by omega)).trans ((B.block gb hgb5).trans hb5)
      have EDr6 := EDr.below B6 (Nat.le_refl _)
      have hpn := Rch.lt HLE.out hin (IP.out i hin).1
      have hple := part_le IP.out hin
      have hpp := part_part HLE.out IP.out hin
      have hof : o i = f i := by
        have h1 := HO.out i hin
        have h2 := HF.out i
        cases ho : o i <;> cases hf : f i <;> simp_all
      have cb := blk_cell hb6 (tabB_get hin)
      have ct := blk_cell ht (tabB_get hin)
      have cp := blk_cell hp6 (tab_get hin)
      have cpp := blk_cell hp6 (tab_get hpn)
      rw [hof] at cb
      rw [hpp] at cpp
      obtain ⟨β, hβ⟩ : ∃ β, f i = β := ⟨_, rfl⟩
      rw [hβ] at cb ct
      obtain ⟨x, hx⟩ : ∃ x, p i = x := ⟨_, rfl⟩
      rw [hx] at cp cpp hple hpn
      have HX := hid hx
      clear hβ hx hof hpp
      have i1 : (0 : Int) ≤ (i : Int) := by omega
      have i2 : (i : Int) < (n : Int) := by omega
      have x1 : (0 : Int) ≤ (x : Int) := by omega
      have x2 : (x : Int) < (n : Int) := by omega
      have x3 : ¬ ((x : Int) < 0) := by omega
      have x4 : ¬ ((i : Int) < (x : Int)) := by omega
      have x5 : decide ((i : Int) < (x : Int)) = false := by simp; omega
      have x6 : decide (i < x) = false := by simp; omega
      have x7 : ¬ (i < x) := by omega
      have S0 : w6.drew.cell? ⟨gb, i, none⟩ = some (.bool β) ∧ w6.drew.cell? ⟨gt, i, none⟩ = some (.bool β) ∧ w6.drew.cell? ⟨gp, i, none⟩ = some (.int .i64 (x : Int)) ∧ w6.drew.cell? ⟨gp, x, none⟩ = some (.int .i64 (x : Int)) := ⟨cb, ct, cp, cpp⟩
      go_wp2_with fail
      go_region_held3 (fun w' => w'.cell? ⟨gb, i, none⟩ = some (.bool β) ∧ w'.cell? ⟨gt, i, none⟩ = some (.bool β) ∧ w'.cell? ⟨gp, i, none⟩ = some (.int .i64 (x : Int)) ∧ w'.cell? ⟨gp, x, none⟩ = some (.int .i64 (x : Int))) (first | exact S0 | assumption) (fail)
      go_wp2_with fail
      obtain ⟨W6, hW6⟩ : ∃ W, W = w6.drew := ⟨_, rfl⟩
      have e6 : W6.heap = w6.heap := by rw [hW6]; rfl
      have hp7 := (congrArg (fun H : Array Obj => H[gp]?) e6).trans hp6
      have ht7 := (congrArg (fun H : Array Obj => H[gt]?) e6).trans ht
      have B7 : Below w5.heap.size w5 W6 := by rw [hW6]; exact (B.trans (B6.mono (by omega))).drew
      have ED7 : EdgesAt W6 ea n L := ED5.below B7 (Nat.le_refl _)
      rw [← hW6]
      have hpi := HX.out
      clear hW6 e6 S0 cb ct cp cpp hb6 hp6 ht EDr EDr6 x3 x4 x5 x6 x7 B6
      go_loopw [81] (fun v wx => ∃ k : Nat, v = .int .i64 k ∧ k ≤ n ∧ Below W6.heap.size W6 wx) (fun v _ => n - (intOf v).toNat)
      case atStart => exact ⟨0, rfl, Nat.zero_le _, Below.refl _ _⟩
      case round =>
        obtain ⟨k, rfl, hk, BK⟩ := hrel
        by_cases hkn : k < n
        · have k1 : (0 : Int) ≤ (k : Int) := by omega
          have k2 : (k : Int) < (n : Int) := by omega
          have hpr := (BK.block gp (lt_of_blk hp7)).trans hp7
          have htr := (BK.block gt (lt_of_blk ht7)).trans ht7
          have ci := blk_cell hpr (tab_get hin)
          have ck := blk_cell hpr (tab_get hkn)
          have ctk := blk_cell htr (tabB_get hkn)
          rw [hpi] at ci
          have HPI := hid hpi
          have SI := hid (same_iff HLE.out IP.out hin hkn)
          have EDk := ED7.below BK (Nat.le_refl _)
          have hFk := HF.out k
          have HFk := hid hFk
          clear hFk
          by_cases hik : k = i
          · subst hik
            rw [hpi] at ck
            have S0 : wr.drew.cell? ⟨gp, k, none⟩ = some (.int .i64 (x : Int)) ∧ wr.drew.cell? ⟨gp, k, none⟩ = some (.int .i64 (x : Int)) ∧ wr.drew.cell? ⟨gt, k, none⟩ = some (.bool (f k)) := ⟨ci, ck, ctk⟩
            clear hpi hpr htr S0
            have he1 : ((k : Int) == (k : Int)) = true := by simp
            go_wp2_with fail
            go_quiet (fail)
            go_wp2_with fail
            go_roundw
            case measure => simp [intOf]; omega
            case rel => exact ⟨k + 1, by go_num, by omega, Below.drewN BK _⟩
          · have n1 : ((i : Int) == (k : Int)) = false := by simp; omega
            have n2 : ¬ ((i : Int) = (k : Int)) := by omega
            have n3 : ¬ (i = k) := fun e => hik e.symm
            have NI := hid n3
            obtain ⟨y, hy⟩ : ∃ y, p k = y := ⟨_, rfl⟩
            rw [hy] at ck
            have HY := hid hy
            cases hfk : f k with
            | false =>
              have hxy : x ≠ y := fun e => by
                rcases SI.out.1 (by rw [HPI.out, HY.out, e]) with h | h
                · exact NI.out h
                · have := HFk.out.2 h.1; rw [hfk] at this; cases this
              rw [hfk] at ctk
              have hxn : ((x : Int) == (y : Int)) = false := by simp; omega
              have S0 : wr.drew.cell? ⟨gp, i, none⟩ = some (.int .i64 (x : Int)) ∧ wr.drew.cell? ⟨gp, k, none⟩ = some (.int .i64 (y : Int)) ∧ wr.drew.cell? ⟨gt, k, none⟩ = some (.bool false) := ⟨ci, ck, ctk⟩
              clear hpi hy hpr htr S0 hik hfk hxy
              go_wp2_with fail
              go_quiet (fail)
              go_wp2_with fail
              go_roundw
              case measure => simp [intOf]; omega
              case rel => exact ⟨k + 1, by go_num, by omega, Below.drewN BK _⟩
            | true =>
              rw [hfk] at ctk
              have EDkd : EdgesAt wr.drew ea n L := EDk.below (Below.refl _ wr).drew (Nat.le_refl _)
              have LK := leads_any ea n ec L k wr.drew EDkd (by omega) hkn
              have hFK := hid (HFk.out.1 hfk)
              have hprd : wr.drew.heap[gp]? = _ := hpr
              have htrd : wr.drew.heap[gt]? = _ := htr
              have hgpr : gp < wr.drew.heap.size := lt_of_blk hprd
              have hgtr : gt < wr.drew.heap.size := lt_of_blk htrd
              by_cases hxy : x = y
              · subst hxy
                have S0 : wr.drew.cell? ⟨gp, i, none⟩ = some (.int .i64 (x : Int)) ∧ wr.drew.cell? ⟨gp, k, none⟩ = some (.int .i64 (x : Int)) ∧ wr.drew.cell? ⟨gt, k, none⟩ = some (.bool true) := ⟨ci, ck, ctk⟩
                have SK := hid (show Lds (edgeE n L) k i from by
                  rcases SI.out.1 (by rw [HPI.out, HY.out]) with h | h
                  · exact absurd h NI.out
                  · exact h.2)
                clear hpi hy hpr htr hik hfk
                go_wp2_with fail
                refine wp_region_held_drew (S := (fun w' => w'.cell? ⟨gp, i, none⟩ = some (.int .i64 (x : Int)) ∧ w'.cell? ⟨gp, k, none⟩ = some (.int .i64 (x : Int)) ∧ w'.cell? ⟨gt, k, none⟩ = some (.bool true))) (by kernel_rfl) S0 (fun hHeld => ?_)
                refine wpAnyH_take (i := 0) (v := ?v0) (by simp only [List.getElem?_toArray, List.getElem?_cons_zero, List.getElem?_cons_succ]; rfl) (by kernel_rfl) (by kernel_rfl) (by kernel_rfl) (by exact fun _ _ _ h => h) (Or.inl ⟨by rfl, ?h0⟩) (by assumption) ?r0
                case h0 => (intro w hSw; (try dsimp only at hSw); go_simp; try with_reducible rfl)
                try simp only [Act.put, List.setIfInBounds_toArray, List.set_cons_zero, List.set_cons_succ]
                refine wpAnyH_take (i := 1) (v := ?v1) (by simp only [List.getElem?_toArray, List.getElem?_cons_zero, List.getElem?_cons_succ]; rfl) (by kernel_rfl) (by kernel_rfl) (by kernel_rfl) (by exact fun _ _ _ h => h) (Or.inl ⟨by rfl, ?h1⟩) (by assumption) ?r1
                case h1 => (intro w hSw; (try dsimp only at hSw); go_simp; try with_reducible rfl)
                try simp only [Act.put, List.setIfInBounds_toArray, List.set_cons_zero, List.set_cons_succ]
                refine wpAnyH_take (i := 2) (v := ?v2) (by simp only [List.getElem?_toArray, List.getElem?_cons_zero, List.getElem?_cons_succ]; rfl) (by kernel_rfl) (by kernel_rfl) (by kernel_rfl) (by exact fun _ _ _ h => h) (Or.inl ⟨by rfl, ?h2⟩) (by assumption) ?r2
                case h2 => (intro w hSw; (try dsimp only at hSw); go_simp; try with_reducible rfl)
                try simp only [Act.put, List.setIfInBounds_toArray, List.set_cons_zero, List.set_cons_succ]
                refine wpAnyH_take (i := 3) (v := ?v3) (by simp only [List.getElem?_toArray, List.getElem?_cons_zero, List.getElem?_cons_succ]; rfl) (by kernel_rfl) (by kernel_rfl) (by kernel_rfl) (by exact fun _ _ _ h => h) (Or.inl ⟨by rfl, ?h3⟩) (by assumption) ?r3
                case h3 => (intro w hSw; (try dsimp only at hSw); go_simp; try with_reducible rfl)
                try simp only [Act.put, List.setIfInBounds_toArray, List.set_cons_zero, List.set_cons_succ]
                refine wpAnyH_take (i := 4) (v := ?v4) (by simp only [List.getElem?_toArray, List.getElem?_cons_zero, List.getElem?_cons_succ]; rfl) (by kernel_rfl) (by kernel_rfl) (by kernel_rfl) (by exact fun _ _ _ h => h) (Or.inl ⟨by rfl, ?h4⟩) (by assumption) ?r4
                case h4 => (intro w hSw; (try dsimp only at hSw); go_simp; try with_reducible rfl)
                try simp only [Act.put, List.setIfInBounds_toArray, List.set_cons_zero, List.set_cons_succ]
                refine wpAnyH_take (i := 5) (v := ?v5) (by simp only [List.getElem?_toArray, List.getElem?_cons_zero, List.getElem?_cons_succ]; rfl) (by kernel_rfl) (by kernel_rfl) (by kernel_rfl) (by exact fun _ _ _ h => h) (Or.inl ⟨by rfl, ?h5⟩) (by assumption) ?r5
                case h5 => (intro w hSw; (try dsimp only at hSw); go_simp; try with_reducible rfl)
                try simp only [Act.put, List.setIfInBounds_toArray, List.set_cons_zero, List.set_cons_succ]
                refine wpAnyH_take (i := 6) (v := ?v6) (by simp only [List.getElem?_toArray, List.getElem?_cons_zero, List.getElem?_cons_succ]; rfl) (by kernel_rfl) (by kernel_rfl) (by kernel_rfl) (by exact fun _ _ _ h => h) (Or.inl ⟨by rfl, ?h6⟩) (by assumption) ?r6
                case h6 => (intro w hSw; (try dsimp only at hSw); go_simp; try with_reducible rfl)
                try simp only [Act.put, List.setIfInBounds_toArray, List.set_cons_zero, List.set_cons_succ]
                refine wpAnyH_take (i := 7) (v := ?v7) (by simp only [List.getElem?_toArray, List.getElem?_cons_zero, List.getElem?_cons_succ]; rfl) (by kernel_rfl) (by kernel_rfl) (by kernel_rfl) (by exact fun _ _ _ h => h) (Or.inl ⟨by rfl, ?h7⟩) (by assumption) ?r7
                case h7 => (intro w hSw; (try dsimp only at hSw); go_simp; try with_reducible rfl)
                try simp only [Act.put, List.setIfInBounds_toArray, List.set_cons_zero, List.set_cons_succ]
                refine wpAnyH_take (i := 8) (v := ?v8) (by simp only [List.getElem?_toArray, List.getElem?_cons_zero, List.getElem?_cons_succ]; rfl) (by kernel_rfl) (by kernel_rfl) (by kernel_rfl) (by exact fun _ _ _ h => h) (Or.inl ⟨by rfl, ?h8⟩) (by assumption) ?r8
                case h8 => (intro w hSw; (try dsimp only at hSw); go_simp; try with_reducible rfl)
                try simp only [Act.put, List.setIfInBounds_toArray, List.set_cons_zero, List.set_cons_succ]
                refine wpAnyH_take (i := 9) (v := ?v9) (by simp only [List.getElem?_toArray, List.getElem?_cons_zero, List.getElem?_cons_succ]; rfl) (by kernel_rfl) (by kernel_rfl) (by kernel_rfl) (by exact fun _ _ _ h => h) (Or.inl ⟨by rfl, ?h9⟩) (by assumption) ?r9
                case h9 => (intro w hSw; (try dsimp only at hSw); go_simp; try with_reducible rfl)
                try simp only [Act.put, List.setIfInBounds_toArray, List.set_cons_zero, List.set_cons_succ]
                refine wpAnyH_take (i := 10) (v := ?v10) (by simp only [List.getElem?_toArray, List.getElem?_cons_zero, List.getElem?_cons_succ]; rfl) (by kernel_rfl) (by kernel_rfl) (by kernel_rfl) (by exact fun _ _ _ h => h) (Or.inl ⟨by rfl, ?h10⟩) (by assumption) ?r10
                case h10 => (intro w hSw; (try dsimp only at hSw); go_simp; try with_reducible rfl)
                try simp only [Act.put, List.setIfInBounds_toArray, List.set_cons_zero, List.set_cons_succ]
                refine wpAnyH_take (i := 11) (v := ?v11) (by simp only [List.getElem?_toArray, List.getElem?_cons_zero, List.getElem?_cons_succ]; rfl) (by kernel_rfl) (by kernel_rfl) (by kernel_rfl) (by exact fun _ _ _ h => h) (Or.inl ⟨by rfl, ?h11⟩) (by assumption) ?r11
                case h11 => (intro w hSw; (try dsimp only at hSw); go_simp; try with_reducible rfl)
                try simp only [Act.put, List.setIfInBounds_toArray, List.set_cons_zero, List.set_cons_succ]
                refine wpAnyH_take (i := 12) (v := ?v12) (by simp only [List.getElem?_toArray, List.getElem?_cons_zero, List.getElem?_cons_succ]; rfl) (by kernel_rfl) (by kernel_rfl) (by kernel_rfl) (by exact fun _ _ _ h => h) (Or.inl ⟨by rfl, ?h12⟩) (by assumption) ?r12
                case h12 => (intro w hSw; (try dsimp only at hSw); go_simp; try with_reducible rfl)
                try simp only [Act.put, List.setIfInBounds_toArray, List.set_cons_zero, List.set_cons_succ]
                refine wpAnyH_take (i := 13) (v := ?v13) (by simp only [List.getElem?_toArray, List.getElem?_cons_zero, List.getElem?_cons_succ]; rfl) (by kernel_rfl) (by kernel_rfl) (by kernel_rfl) (by exact fun _ _ _ h => h) (Or.inl ⟨by rfl, ?h13⟩) (by assumption) ?r13
                case h13 => (intro w hSw; (try dsimp only at hSw); go_simp; try with_reducible rfl)
                try simp only [Act.put, List.setIfInBounds_toArray, List.set_cons_zero, List.set_cons_succ]
                refine wpAnyH_take (i := 14) (v := ?v14) (by simp only [List.getElem?_toArray, List.getElem?_cons_zero, List.getElem?_cons_succ]; rfl) (by kernel_rfl) (by kernel_rfl) (by kernel_rfl) (by exact fun _ _ _ h => h) (Or.inl ⟨by rfl, ?h14⟩) (by assumption) ?r14
                case h14 => (intro w hSw; (try dsimp only at hSw); go_simp; try with_reducible rfl)
                try simp only [Act.put, List.setIfInBounds_toArray, List.set_cons_zero, List.set_cons_succ]
                refine wpAnyH_take (i := 15) (v := ?v15) (by simp only [List.getElem?_toArray, List.getElem?_cons_zero, List.getElem?_cons_succ]; rfl) (by kernel_rfl) (by kernel_rfl) (by kernel_rfl) (by exact fun _ _ _ h => h) (Or.inl ⟨by rfl, ?h15⟩) (by assumption) ?r15
                case h15 => (intro w hSw; (try dsimp only at hSw); go_simp; try with_reducible rfl)
                try simp only [Act.put, List.setIfInBounds_toArray, List.set_cons_zero, List.set_cons_succ]
                refine wpAnyH_take (i := 16) (v := ?v16) (by simp only [List.getElem?_toArray, List.getElem?_cons_zero, List.getElem?_cons_succ]; rfl) (by kernel_rfl) (by kernel_rfl) (by kernel_rfl) (by exact fun _ _ _ h => h) (Or.inl ⟨by rfl, ?h16⟩) (by assumption) ?r16
                case h16 => (intro w hSw; (try dsimp only at hSw); go_simp; try with_reducible rfl)
                try simp only [Act.put, List.setIfInBounds_toArray, List.set_cons_zero, List.set_cons_succ]
                refine wpAnyH_take (i := 17) (v := ?v17) (by simp only [List.getElem?_toArray, List.getElem?_cons_zero, List.getElem?_cons_succ]; rfl) (by kernel_rfl) (by kernel_rfl) (by kernel_rfl) (by exact fun _ _ _ h => h) (Or.inl ⟨by rfl, ?h17⟩) (by assumption) ?r17
                case h17 => (intro w hSw; (try dsimp only at hSw); go_simp; try with_reducible rfl)
                try simp only [Act.put, List.setIfInBounds_toArray, List.set_cons_zero, List.set_cons_succ]
                refine wpAnyH_take (i := 18) (v := ?v18) (by simp only [List.getElem?_toArray, List.getElem?_cons_zero, List.getElem?_cons_succ]; rfl) (by kernel_rfl) (by kernel_rfl) (by kernel_rfl) (by exact fun _ _ _ h => h) (Or.inl ⟨by rfl, ?h18⟩) (by assumption) ?r18
                case h18 => (intro w hSw; (try dsimp only at hSw); go_simp; try with_reducible rfl)
                try simp only [Act.put, List.setIfInBounds_toArray, List.set_cons_zero, List.set_cons_succ]
                refine wpAnyH_take (i := 19) (v := ?v19) (by simp only [List.getElem?_toArray, List.getElem?_cons_zero, List.getElem?_cons_succ]; rfl) (by kernel_rfl) (by kernel_rfl) (by kernel_rfl) (by exact fun _ _ _ h => h) (Or.inl ⟨by rfl, ?h19⟩) (by assumption) ?r19
                case h19 => (intro w hSw; (try dsimp only at hSw); go_simp; try with_reducible rfl)
                try simp only [Act.put, List.setIfInBounds_toArray, List.set_cons_zero, List.set_cons_succ]
                refine wpAnyH_take (i := 21) (v := ?v21) (by simp only [List.getElem?_toArray, List.getElem?_cons_zero, List.getElem?_cons_succ]; rfl) (by kernel_rfl) (by kernel_rfl) (by kernel_rfl) (by exact fun _ _ _ h => h) (Or.inl ⟨by rfl, ?h21⟩) (by assumption) ?r21
                case h21 => (intro w hSw; (try dsimp only at hSw); go_simp; try with_reducible rfl)
                try simp only [Act.put, List.setIfInBounds_toArray, List.set_cons_zero, List.set_cons_succ]
                refine wpAnyH_ready (rs := [20]) (by kernel_rfl) (by simp) ?_
                refine AllReadyH.cons (by simp only [List.getElem?_toArray, List.getElem?_cons_zero, List.getElem?_cons_succ]; rfl) (fun K hK => ?_) AllReadyH.nil
                go_simp
                go_at_call 12; refine LK.mono ?_; rintro e w8 ⟨gk, fk, rfl, hk8, HFK, hgk, B8⟩; have z1 := (B8.block gp hgpr).trans hprd; have z2 := (B8.block gt hgtr).trans htrd; have q1 : w8.cell? ⟨gp, i, none⟩ = some (.int .i64 (x : Int)) := Below.cellAt B8 hgpr S0.1; have q2 : w8.cell? ⟨gp, k, none⟩ = some (.int .i64 (x : Int)) := Below.cellAt B8 hgpr S0.2.1; have q3 : w8.cell? ⟨gt, k, none⟩ = some (.bool true) := Below.cellAt B8 hgtr S0.2.2; have S8 := And.intro q1 (And.intro q2 q3); have fi : fk i = true := (HFK i).2 SK.out; have q4 : w8.cell? ⟨gk, i, none⟩ = some (.bool true) := (by have := blk_cell hk8 (tabB_get hin); rw [fi] at this; exact this); clear z1 z2 hk8 HFK
                refine hK.out _ _ S8 (fun hHeld2 => ?_)
                clear hK
                try simp only [Act.put, List.setIfInBounds_toArray, List.set_cons_zero, List.set_cons_succ]
                refine wpAnyH_take (i := 22) (v := ?v22) (by simp only [List.getElem?_toArray, List.getElem?_cons_zero, List.getElem?_cons_succ]; rfl) (by kernel_rfl) (by kernel_rfl) (by kernel_rfl) (by exact fun _ _ _ h => h) (Or.inl ⟨by rfl, ?h22⟩) (by assumption) ?r22
                case h22 => (intro w hSw; (try dsimp only at hSw); go_simp; try with_reducible rfl)
                try simp only [Act.put, List.setIfInBounds_toArray, List.set_cons_zero, List.set_cons_succ]
                refine wpAnyH_ready (rs := [23]) (by kernel_rfl) (by simp) ?_
                refine AllReadyH.cons (by simp only [List.getElem?_toArray, List.getElem?_cons_zero, List.getElem?_cons_succ]; rfl) (fun K hK => ?_) AllReadyH.nil
                go_simp
                refine hK.out _ _ S8 (fun hHeld3 => ?_)
                clear hK
                try simp only [Act.put, List.setIfInBounds_toArray, List.set_cons_zero, List.set_cons_succ]
                refine wpAnyH_take (i := 24) (v := ?v24) (by simp only [List.getElem?_toArray, List.getElem?_cons_zero, List.getElem?_cons_succ]; rfl) (by kernel_rfl) (by kernel_rfl) (by kernel_rfl) (by exact fun _ _ _ h => h) (Or.inl ⟨by rfl, ?h24⟩) (by assumption) ?r24
                case h24 => (intro w hSw; (try dsimp only at hSw); go_simp; try with_reducible rfl)
                try simp only [Act.put, List.setIfInBounds_toArray, List.set_cons_zero, List.set_cons_succ]
                refine wpAnyH_take (i := 25) (v := ?v25) (by simp only [List.getElem?_toArray, List.getElem?_cons_zero, List.getElem?_cons_succ]; rfl) (by kernel_rfl) (by kernel_rfl) (by kernel_rfl) (by exact fun _ _ _ h => h) (Or.inl ⟨by rfl, ?h25⟩) (by assumption) ?r25
                case h25 => (intro w hSw; (try dsimp only at hSw); go_simp; try with_reducible rfl)
                try simp only [Act.put, List.setIfInBounds_toArray, List.set_cons_zero, List.set_cons_succ]
                refine wpAnyH_take (i := 26) (v := ?v26) (by simp only [List.getElem?_toArray, List.getElem?_cons_zero, List.getElem?_cons_succ]; rfl) (by kernel_rfl) (by kernel_rfl) (by kernel_rfl) (by exact fun _ _ _ h => h) (Or.inl ⟨by rfl, ?h26⟩) (by assumption) ?r26
                case h26 => (intro w hSw; (try dsimp only at hSw); go_simp; try with_reducible rfl)
                try simp only [Act.put, List.setIfInBounds_toArray, List.set_cons_zero, List.set_cons_succ]
                refine wpAnyH_done (by kernel_rfl) ?_ _
                all_goals
                  go_wp2_with fail
                  go_roundw
                  case measure => simp [intOf]; omega
                  case rel => exact ⟨k + 1, by go_num, by omega, BK.drew.trans (B8.mono (by have := BK.size; exact this))⟩
              · have hxn : ((x : Int) == (y : Int)) = false := by simp; omega
                have HXY := hid hxy
                have S0 : wr.drew.cell? ⟨gp, i, none⟩ = some (.int .i64 (x : Int)) ∧ wr.drew.cell? ⟨gp, k, none⟩ = some (.int .i64 (y : Int)) ∧ wr.drew.cell? ⟨gt, k, none⟩ = some (.bool true) := ⟨ci, ck, ctk⟩
                have SK := hid (show ¬ Lds (edgeE n L) k i from fun h => HXY.out (by
                  have := SI.out.2 (.inr ⟨hFK.out, h⟩)
                  rw [HPI.out, HY.out] at this
                  exact this))
                clear hpi hy hpr htr hik hfk hxy
                go_wp2_with fail
                refine wp_region_held_drew (S := (fun w' => w'.cell? ⟨gp, i, none⟩ = some (.int .i64 (x : Int)) ∧ w'.cell? ⟨gp, k, none⟩ = some (.int .i64 (y : Int)) ∧ w'.cell? ⟨gt, k, none⟩ = some (.bool true))) (by kernel_rfl) S0 (fun hHeld => ?_)
                refine wpAnyH_take (i := 0) (v := ?v0b) (by simp only [List.getElem?_toArray, List.getElem?_cons_zero, List.getElem?_cons_succ]; rfl) (by kernel_rfl) (by kernel_rfl) (by kernel_rfl) (by exact fun _ _ _ h => h) (Or.inl ⟨by rfl, ?h0b⟩) (by assumption) ?r0b
                case h0b => (intro w hSw; (try dsimp only at hSw); go_simp; try with_reducible rfl)
                try simp only [Act.put, List.setIfInBounds_toArray, List.set_cons_zero, List.set_cons_succ]
                refine wpAnyH_take (i := 1) (v := ?v1b) (by simp only [List.getElem?_toArray, List.getElem?_cons_zero, List.getElem?_cons_succ]; rfl) (by kernel_rfl) (by kernel_rfl) (by kernel_rfl) (by exact fun _ _ _ h => h) (Or.inl ⟨by rfl, ?h1b⟩) (by assumption) ?r1b
                case h1b => (intro w hSw; (try dsimp only at hSw); go_simp; try with_reducible rfl)
                try simp only [Act.put, List.setIfInBounds_toArray, List.set_cons_zero, List.set_cons_succ]
                refine wpAnyH_take (i := 2) (v := ?v2b) (by simp only [List.getElem?_toArray, List.getElem?_cons_zero, List.getElem?_cons_succ]; rfl) (by kernel_rfl) (by kernel_rfl) (by kernel_rfl) (by exact fun _ _ _ h => h) (Or.inl ⟨by rfl, ?h2b⟩) (by assumption) ?r2b
                case h2b => (intro w hSw; (try dsimp only at hSw); go_simp; try with_reducible rfl)
                try simp only [Act.put, List.setIfInBounds_toArray, List.set_cons_zero, List.set_cons_succ]
                refine wpAnyH_take (i := 3) (v := ?v3b) (by simp only [List.getElem?_toArray, List.getElem?_cons_zero, List.getElem?_cons_succ]; rfl) (by kernel_rfl) (by kernel_rfl) (by kernel_rfl) (by exact fun _ _ _ h => h) (Or.inl ⟨by rfl, ?h3b⟩) (by assumption) ?r3b
                case h3b => (intro w hSw; (try dsimp only at hSw); go_simp; try with_reducible rfl)
                try simp only [Act.put, List.setIfInBounds_toArray, List.set_cons_zero, List.set_cons_succ]
                refine wpAnyH_take (i := 4) (v := ?v4b) (by simp only [List.getElem?_toArray, List.getElem?_cons_zero, List.getElem?_cons_succ]; rfl) (by kernel_rfl) (by kernel_rfl) (by kernel_rfl) (by exact fun _ _ _ h => h) (Or.inl ⟨by rfl, ?h4b⟩) (by assumption) ?r4b
                case h4b => (intro w hSw; (try dsimp only at hSw); go_simp; try with_reducible rfl)
                try simp only [Act.put, List.setIfInBounds_toArray, List.set_cons_zero, List.set_cons_succ]
                refine wpAnyH_take (i := 5) (v := ?v5b) (by simp only [List.getElem?_toArray, List.getElem?_cons_zero, List.getElem?_cons_succ]; rfl) (by kernel_rfl) (by kernel_rfl) (by kernel_rfl) (by exact fun _ _ _ h => h) (Or.inl ⟨by rfl, ?h5b⟩) (by assumption) ?r5b
                case h5b => (intro w hSw; (try dsimp only at hSw); go_simp; try with_reducible rfl)
                try simp only [Act.put, List.setIfInBounds_toArray, List.set_cons_zero, List.set_cons_succ]
                refine wpAnyH_take (i := 6) (v := ?v6b) (by simp only [List.getElem?_toArray, List.getElem?_cons_zero, List.getElem?_cons_succ]; rfl) (by kernel_rfl) (by kernel_rfl) (by kernel_rfl) (by exact fun _ _ _ h => h) (Or.inl ⟨by rfl, ?h6b⟩) (by assumption) ?r6b
                case h6b => (intro w hSw; (try dsimp only at hSw); go_simp; try with_reducible rfl)
                try simp only [Act.put, List.setIfInBounds_toArray, List.set_cons_zero, List.set_cons_succ]
                refine wpAnyH_take (i := 7) (v := ?v7b) (by simp only [List.getElem?_toArray, List.getElem?_cons_zero, List.getElem?_cons_succ]; rfl) (by kernel_rfl) (by kernel_rfl) (by kernel_rfl) (by exact fun _ _ _ h => h) (Or.inl ⟨by rfl, ?h7b⟩) (by assumption) ?r7b
                case h7b => (intro w hSw; (try dsimp only at hSw); go_simp; try with_reducible rfl)
                try simp only [Act.put, List.setIfInBounds_toArray, List.set_cons_zero, List.set_cons_succ]
                refine wpAnyH_take (i := 8) (v := ?v8b) (by simp only [List.getElem?_toArray, List.getElem?_cons_zero, List.getElem?_cons_succ]; rfl) (by kernel_rfl) (by kernel_rfl) (by kernel_rfl) (by exact fun _ _ _ h => h) (Or.inl ⟨by rfl, ?h8b⟩) (by assumption) ?r8b
                case h8b => (intro w hSw; (try dsimp only at hSw); go_simp; try with_reducible rfl)
                try simp only [Act.put, List.setIfInBounds_toArray, List.set_cons_zero, List.set_cons_succ]
                refine wpAnyH_take (i := 9) (v := ?v9b) (by simp only [List.getElem?_toArray, List.getElem?_cons_zero, List.getElem?_cons_succ]; rfl) (by kernel_rfl) (by kernel_rfl) (by kernel_rfl) (by exact fun _ _ _ h => h) (Or.inl ⟨by rfl, ?h9b⟩) (by assumption) ?r9b
                case h9b => (intro w hSw; (try dsimp only at hSw); go_simp; try with_reducible rfl)
                try simp only [Act.put, List.setIfInBounds_toArray, List.set_cons_zero, List.set_cons_succ]
                refine wpAnyH_take (i := 10) (v := ?v10b) (by simp only [List.getElem?_toArray, List.getElem?_cons_zero, List.getElem?_cons_succ]; rfl) (by kernel_rfl) (by kernel_rfl) (by kernel_rfl) (by exact fun _ _ _ h => h) (Or.inl ⟨by rfl, ?h10b⟩) (by assumption) ?r10b
                case h10b => (intro w hSw; (try dsimp only at hSw); go_simp; try with_reducible rfl)
                try simp only [Act.put, List.setIfInBounds_toArray, List.set_cons_zero, List.set_cons_succ]
                refine wpAnyH_take (i := 11) (v := ?v11b) (by simp only [List.getElem?_toArray, List.getElem?_cons_zero, List.getElem?_cons_succ]; rfl) (by kernel_rfl) (by kernel_rfl) (by kernel_rfl) (by exact fun _ _ _ h => h) (Or.inl ⟨by rfl, ?h11b⟩) (by assumption) ?r11b
                case h11b => (intro w hSw; (try dsimp only at hSw); go_simp; try with_reducible rfl)
                try simp only [Act.put, List.setIfInBounds_toArray, List.set_cons_zero, List.set_cons_succ]
                refine wpAnyH_take (i := 12) (v := ?v12b) (by simp only [List.getElem?_toArray, List.getElem?_cons_zero, List.getElem?_cons_succ]; rfl) (by kernel_rfl) (by kernel_rfl) (by kernel_rfl) (by exact fun _ _ _ h => h) (Or.inl ⟨by rfl, ?h12b⟩) (by assumption) ?r12b
                case h12b => (intro w hSw; (try dsimp only at hSw); go_simp; try with_reducible rfl)
                try simp only [Act.put, List.setIfInBounds_toArray, List.set_cons_zero, List.set_cons_succ]
                refine wpAnyH_take (i := 13) (v := ?v13b) (by simp only [List.getElem?_toArray, List.getElem?_cons_zero, List.getElem?_cons_succ]; rfl) (by kernel_rfl) (by kernel_rfl) (by kernel_rfl) (by exact fun _ _ _ h => h) (Or.inl ⟨by rfl, ?h13b⟩) (by assumption) ?r13b
                case h13b => (intro w hSw; (try dsimp only at hSw); go_simp; try with_reducible rfl)
                try simp only [Act.put, List.setIfInBounds_toArray, List.set_cons_zero, List.set_cons_succ]
                refine wpAnyH_take (i := 14) (v := ?v14b) (by simp only [List.getElem?_toArray, List.getElem?_cons_zero, List.getElem?_cons_succ]; rfl) (by kernel_rfl) (by kernel_rfl) (by kernel_rfl) (by exact fun _ _ _ h => h) (Or.inl ⟨by rfl, ?h14b⟩) (by assumption) ?r14b
                case h14b => (intro w hSw; (try dsimp only at hSw); go_simp; try with_reducible rfl)
                try simp only [Act.put, List.setIfInBounds_toArray, List.set_cons_zero, List.set_cons_succ]
                refine wpAnyH_take (i := 15) (v := ?v15b) (by simp only [List.getElem?_toArray, List.getElem?_cons_zero, List.getElem?_cons_succ]; rfl) (by kernel_rfl) (by kernel_rfl) (by kernel_rfl) (by exact fun _ _ _ h => h) (Or.inl ⟨by rfl, ?h15b⟩) (by assumption) ?r15b
                case h15b => (intro w hSw; (try dsimp only at hSw); go_simp; try with_reducible rfl)
                try simp only [Act.put, List.setIfInBounds_toArray, List.set_cons_zero, List.set_cons_succ]
                refine wpAnyH_take (i := 16) (v := ?v16b) (by simp only [List.getElem?_toArray, List.getElem?_cons_zero, List.getElem?_cons_succ]; rfl) (by kernel_rfl) (by kernel_rfl) (by kernel_rfl) (by exact fun _ _ _ h => h) (Or.inl ⟨by rfl, ?h16b⟩) (by assumption) ?r16b
                case h16b => (intro w hSw; (try dsimp only at hSw); go_simp; try with_reducible rfl)
                try simp only [Act.put, List.setIfInBounds_toArray, List.set_cons_zero, List.set_cons_succ]
                refine wpAnyH_take (i := 17) (v := ?v17b) (by simp only [List.getElem?_toArray, List.getElem?_cons_zero, List.getElem?_cons_succ]; rfl) (by kernel_rfl) (by kernel_rfl) (by kernel_rfl) (by exact fun _ _ _ h => h) (Or.inl ⟨by rfl, ?h17b⟩) (by assumption) ?r17b
                case h17b => (intro w hSw; (try dsimp only at hSw); go_simp; try with_reducible rfl)
                try simp only [Act.put, List.setIfInBounds_toArray, List.set_cons_zero, List.set_cons_succ]
                refine wpAnyH_take (i := 18) (v := ?v18b) (by simp only [List.getElem?_toArray, List.getElem?_cons_zero, List.getElem?_cons_succ]; rfl) (by kernel_rfl) (by kernel_rfl) (by kernel_rfl) (by exact fun _ _ _ h => h) (Or.inl ⟨by rfl, ?h18b⟩) (by assumption) ?r18b
                case h18b => (intro w hSw; (try dsimp only at hSw); go_simp; try with_reducible rfl)
                try simp only [Act.put, List.setIfInBounds_toArray, List.set_cons_zero, List.set_cons_succ]
                refine wpAnyH_take (i := 19) (v := ?v19b) (by simp only [List.getElem?_toArray, List.getElem?_cons_zero, List.getElem?_cons_succ]; rfl) (by kernel_rfl) (by kernel_rfl) (by kernel_rfl) (by exact fun _ _ _ h => h) (Or.inl ⟨by rfl, ?h19b⟩) (by assumption) ?r19b
                case h19b => (intro w hSw; (try dsimp only at hSw); go_simp; try with_reducible rfl)
                try simp only [Act.put, List.setIfInBounds_toArray, List.set_cons_zero, List.set_cons_succ]
                refine wpAnyH_take (i := 21) (v := ?v21b) (by simp only [List.getElem?_toArray, List.getElem?_cons_zero, List.getElem?_cons_succ]; rfl) (by kernel_rfl) (by kernel_rfl) (by kernel_rfl) (by exact fun _ _ _ h => h) (Or.inl ⟨by rfl, ?h21b⟩) (by assumption) ?r21b
                case h21b => (intro w hSw; (try dsimp only at hSw); go_simp; try with_reducible rfl)
                try simp only [Act.put, List.setIfInBounds_toArray, List.set_cons_zero, List.set_cons_succ]
                refine wpAnyH_ready (rs := [20]) (by kernel_rfl) (by simp) ?_
                refine AllReadyH.cons (by simp only [List.getElem?_toArray, List.getElem?_cons_zero, List.getElem?_cons_succ]; rfl) (fun K hK => ?_) AllReadyH.nil
                go_simp
                go_at_call 12; refine LK.mono ?_; rintro e w8 ⟨gk, fk, rfl, hk8, HFK, hgk, B8⟩; have z1 := (B8.block gp hgpr).trans hprd; have z2 := (B8.block gt hgtr).trans htrd; have q1 : w8.cell? ⟨gp, i, none⟩ = some (.int .i64 (x : Int)) := Below.cellAt B8 hgpr S0.1; have q2 : w8.cell? ⟨gp, k, none⟩ = some (.int .i64 (y : Int)) := Below.cellAt B8 hgpr S0.2.1; have q3 : w8.cell? ⟨gt, k, none⟩ = some (.bool true) := Below.cellAt B8 hgtr S0.2.2; have S8 := And.intro q1 (And.intro q2 q3); have fi : fk i = false := (by cases e : fk i with | false => rfl | true => exact absurd ((HFK i).1 e) SK.out); have q4 : w8.cell? ⟨gk, i, none⟩ = some (.bool false) := (by have := blk_cell hk8 (tabB_get hin); rw [fi] at this; exact this); clear z1 z2 hk8 HFK
                refine hK.out _ _ S8 (fun hHeld2 => ?_)
                clear hK
                try simp only [Act.put, List.setIfInBounds_toArray, List.set_cons_zero, List.set_cons_succ]
                refine wpAnyH_take (i := 22) (v := ?v22b) (by simp only [List.getElem?_toArray, List.getElem?_cons_zero, List.getElem?_cons_succ]; rfl) (by kernel_rfl) (by kernel_rfl) (by kernel_rfl) (by exact fun _ _ _ h => h) (Or.inl ⟨by rfl, ?h22b⟩) (by assumption) ?r22b
                case h22b => (intro w hSw; (try dsimp only at hSw); go_simp; try with_reducible rfl)
                try simp only [Act.put, List.setIfInBounds_toArray, List.set_cons_zero, List.set_cons_succ]
                refine wpAnyH_ready (rs := [23]) (by kernel_rfl) (by simp) ?_
                refine AllReadyH.cons (by simp only [List.getElem?_toArray, List.getElem?_cons_zero, List.getElem?_cons_succ]; rfl) (fun K hK => ?_) AllReadyH.nil
                go_simp
                refine hK.out _ _ S8 (fun hHeld3 => ?_)
                clear hK
                try simp only [Act.put, List.setIfInBounds_toArray, List.set_cons_zero, List.set_cons_succ]
                refine wpAnyH_take (i := 24) (v := ?v24b) (by simp only [List.getElem?_toArray, List.getElem?_cons_zero, List.getElem?_cons_succ]; rfl) (by kernel_rfl) (by kernel_rfl) (by kernel_rfl) (by exact fun _ _ _ h => h) (Or.inl ⟨by rfl, ?h24b⟩) (by assumption) ?r24b
                case h24b => (intro w hSw; (try dsimp only at hSw); go_simp; try with_reducible rfl)
                try simp only [Act.put, List.setIfInBounds_toArray, List.set_cons_zero, List.set_cons_succ]
                refine wpAnyH_take (i := 25) (v := ?v25b) (by simp only [List.getElem?_toArray, List.getElem?_cons_zero, List.getElem?_cons_succ]; rfl) (by kernel_rfl) (by kernel_rfl) (by kernel_rfl) (by exact fun _ _ _ h => h) (Or.inl ⟨by rfl, ?h25b⟩) (by assumption) ?r25b
                case h25b => (intro w hSw; (try dsimp only at hSw); go_simp; try with_reducible rfl)
                try simp only [Act.put, List.setIfInBounds_toArray, List.set_cons_zero, List.set_cons_succ]
                refine wpAnyH_take (i := 26) (v := ?v26b) (by simp only [List.getElem?_toArray, List.getElem?_cons_zero, List.getElem?_cons_succ]; rfl) (by kernel_rfl) (by kernel_rfl) (by kernel_rfl) (by exact fun _ _ _ h => h) (Or.inl ⟨by rfl, ?h26b⟩) (by assumption) ?r26b
                case h26b => (intro w hSw; (try dsimp only at hSw); go_simp; try with_reducible rfl)
                try simp only [Act.put, List.setIfInBounds_toArray, List.set_cons_zero, List.set_cons_succ]
                refine wpAnyH_done (by kernel_rfl) ?_ _
                all_goals
                  go_wp2_with fail
                  go_roundw
                  case measure => simp [intOf]; omega
                  case rel => exact ⟨k + 1, by go_num, by omega, BK.drew.trans (B8.mono (by have := BK.size; exact this))⟩
        · obtain rfl : n = k := by omega
          go_wp2_with fail
          go_roundw
          case measure => simp [intOf]; omega
          case rel => exact ⟨i + 1, by go_num, by omega, B7.trans (BK.mono B7.size)⟩
    · obtain rfl : n = i := by omega
      go_wp2_with fail
      go_ret
      exact ⟨rfl, B05.trans (B.mono B05.size)⟩

end Go.Proofs.Ytfkooghdfidnpaa
