/- package ledger: turned, Found -/
import Derived.Test.YtleoelhhndeheaaGreatLedQ
import Derived.Test.YtleoelhhndeheaaGreatLvs
import Derived.Deep.Cut
import Derived.Deep.CutBlock
import Derived.Deep.CutRange
import Derived.Deep.DeepCutAuto
open Go Go.RowKit
namespace Go.Proofs.YtleoelhhndeheaaGreat

set_option maxRecDepth 100000 in
set_option maxHeartbeats 4000000 in
theorem turned_any {w : World} {M : Dom} {d : Nat} {s : DS} (h : DrumAt w M d s) (r l : Int) (hr : 0 ≤ r ∧ r < 281474976710656) (hl : 0 ≤ l ∧ l < 281474976710656) (hu : s.up.length < 1000000000) :
    Calls Tryz.prog 90 #[.pointer (some ⟨d, 0, none⟩), .agg #[.int .i64 r, .int .i64 l]] w fun e w' => e = .returned (.int .i64 (s.turned r l).1) ∧ ∃ M', DrumAt w' M' d (s.turned r l).2 ∧ Step M w M' w' := by
  obtain ⟨W0, hW0⟩ : ∃ W0, w.alloc (.cells #[.int .i64 r, .int .i64 l] 120) = W0 := ⟨_, rfl⟩
  have BW0 : Below w.heap.size w W0 := by rw [← hW0]; exact (Below.refl _ _).alloc (Nat.le_refl _) _
  have x1 : W0.heap[w.heap.size]? = some (.cells #[.int .i64 r, .int .i64 l] 120 (0, 0)) := by rw [← hW0]; exact blk_new _ _
  obtain ⟨xb, hxb⟩ : ∃ xb, w.heap.size = xb := ⟨_, rfl⟩
  rw [hxb] at x1
  have lxb : xb < W0.heap.size := lt_of_blk x1
  have y0 : W0.cell? ⟨xb, 0, none⟩ = some (.int .i64 r) := blk_cell x1 rfl
  have y1 : W0.cell? ⟨xb, 1, none⟩ = some (.int .i64 l) := blk_cell x1 rfl
  have hMx : ¬ M xb := fun hm => by have := h.ml xb hm; omega
  clear x1
  have tm : r.tmod 2 = r % 2 := Int.tmod_eq_emod_of_nonneg hr.1
  have SB : ∀ W, Below W0.heap.size W0 W → W.cell? ⟨xb, 0, none⟩ = some (.int .i64 r) ∧ W.cell? ⟨xb, 1, none⟩ = some (.int .i64 l) := fun W h => ⟨Below.cellAt h lxb y0, Below.cellAt h lxb y1⟩
  have S1 : Step M w M W0 := Step.of_below BW0
  have D0 := hid (h.below BW0)
  have HM := hid h.ml
  have sz0 := BW0.size
  clear h BW0
  obtain ⟨cd, hcd⟩ : ∃ cd, s.layCode (r % 2) (coverT r l) = cd := ⟨_, rfl⟩
  by_cases hc : cd = 0
  · have HT := hid (show s.turned r l = ((s.lay (r % 2) (coverT r l)).code, (s.lay (r % 2) (coverT r l)).settle) by unfold DS.turned; rw [if_pos (hcd.trans hc)])
    have HCD := hid hcd
    subst hc
    clear hcd
    go_enter Tryz.func90, Tryz.ntmps90
    go_wp2_with fail
    refine wp_region_held_drew (S := fun w' => w'.cell? ⟨xb, 0, none⟩ = some (.int .i64 r) ∧ w'.cell? ⟨xb, 1, none⟩ = some (.int .i64 l)) (by kernel_rfl) (SB _ ((Below.refl W0.heap.size W0).drew)) (fun hHeld => ?_)
    refine wpAnyH_take (i := 0) (v := ?v1) (by simp only [List.getElem?_toArray, List.getElem?_cons_zero]; rfl) (by kernel_rfl) (by kernel_rfl) (by kernel_rfl) (by exact fun _ _ _ h => h) (Or.inl ⟨by rfl, ?h1⟩) (by assumption) ?r1
    case h1 => (intro w hSw; (try dsimp only at hSw); go_simp; try with_reducible rfl)
    try simp only [Act.put, List.setIfInBounds_toArray, List.set_cons_zero, List.set_cons_succ]
    refine wpAnyH_take (i := 1) (v := ?v2) (by simp only [List.getElem?_toArray, List.getElem?_cons_zero, List.getElem?_cons_succ]; rfl) (by kernel_rfl) (by kernel_rfl) (by kernel_rfl) (by exact fun _ _ _ h => h) (Or.inl ⟨by rfl, ?h2⟩) (by assumption) ?r2
    case h2 => (intro w hSw; (try dsimp only at hSw); go_simp; try with_reducible rfl)
    try simp only [Act.put, List.setIfInBounds_toArray, List.set_cons_zero, List.set_cons_succ]
    refine wpAnyH_take (i := 2) (v := ?v3) (by simp only [List.getElem?_toArray, List.getElem?_cons_zero, List.getElem?_cons_succ]; rfl) (by kernel_rfl) (by kernel_rfl) (by kernel_rfl) (by exact fun _ _ _ h => h) (Or.inl ⟨by rfl, ?h3⟩) (by assumption) ?r3
    case h3 => (intro w hSw; (try dsimp only at hSw); go_simp; try with_reducible rfl)
    try simp only [Act.put, List.setIfInBounds_toArray, List.set_cons_zero, List.set_cons_succ]
    refine wpAnyH_take (i := 3) (v := ?v4) (by simp only [List.getElem?_toArray, List.getElem?_cons_zero, List.getElem?_cons_succ]; rfl) (by kernel_rfl) (by kernel_rfl) (by kernel_rfl) (by exact fun _ _ _ h => h) (Or.inl ⟨by rfl, ?h4⟩) (by assumption) ?r4
    case h4 => (intro w hSw; (try dsimp only at hSw); go_simp; try with_reducible rfl)
    try simp only [Act.put, List.setIfInBounds_toArray, List.set_cons_zero, List.set_cons_succ]
    refine wpAnyH_take (i := 4) (v := ?v5) (by simp only [List.getElem?_toArray, List.getElem?_cons_zero, List.getElem?_cons_succ]; rfl) (by kernel_rfl) (by kernel_rfl) (by kernel_rfl) (by exact fun _ _ _ h => h) (Or.inl ⟨by rfl, ?h5⟩) (by assumption) ?r5
    case h5 => (intro w hSw; (try dsimp only at hSw); go_simp; try with_reducible rfl)
    try simp only [Act.put, List.setIfInBounds_toArray, List.set_cons_zero, List.set_cons_succ]
    refine wpAnyH_ready (rs := [5]) (by kernel_rfl) (by simp) ?_
    refine (AllReadyH.cons (by simp only [List.getElem?_toArray, List.getElem?_cons_zero, List.getElem?_cons_succ]; rfl) (fun K hK => ?_) AllReadyH.nil)
    go_simp
    go_at_call 100
    refine (track_any r l _ hr hl).mono ?_
    rintro e wq6 ⟨v6, rfl, o6, C6⟩
    obtain ⟨b6, c6, e86, r6, -, -, lo6⟩ := own96 o6
    subst e86
    have BB6 := ((Below.refl W0.heap.size W0).drew).trans (C6.mono (Below.size ((Below.refl W0.heap.size W0).drew)))
    refine hK.out _ _ (SB _ BB6) (fun hH7 => ?_)
    clear hK
    try simp only [Act.put, List.setIfInBounds_toArray, List.set_cons_zero, List.set_cons_succ]
    refine wpAnyH_ready (rs := [6]) (by kernel_rfl) (by simp) ?_
    refine (AllReadyH.cons (by simp only [List.getElem?_toArray, List.getElem?_cons_zero, List.getElem?_cons_succ]; rfl) (fun K hK => ?_) AllReadyH.nil)
    have DL8 := D0.out.below (BB6)
    have LA8 := lay_any DL8 (r % 2) (some b6) 96 c6 (coverT r l) (r6) (coverT_length r l) (coverT_bytes r l) (fun h => by cases h) (fun _ hm => by have h1 := HM.out _ hm; have h2 := lo6; have h3 := sz0; have h4 : sB (some b6) = b6.block := rfl; have h5 : W0.heap.size ≤ b6.block := h2; omega) hu
    rw [HCD.out] at LA8
    go_simp
    go_at_call 21
    refine LA8.mono ?_
    rintro e wq8 ⟨rfl, M8, DD8, SS8⟩
    have ST8 : Step M w M8 wq8 := (S1.trans (Step.of_below (BB6))).trans SS8
    refine hK.out _ _ ⟨SS8.ext.cell hMx (Below.cellAt (BB6) lxb y0), SS8.ext.cell hMx (Below.cellAt (BB6) lxb y1)⟩ (fun hH9 => ?_)
    clear hK
    try simp only [Act.put, List.setIfInBounds_toArray, List.set_cons_zero, List.set_cons_succ]
    refine wpAnyH_take (i := 7) (v := ?v10) (by simp only [List.getElem?_toArray, List.getElem?_cons_zero, List.getElem?_cons_succ]; rfl) (by kernel_rfl) (by kernel_rfl) (by kernel_rfl) (by exact fun _ _ _ h => h) (Or.inl ⟨by rfl, ?h10⟩) (by assumption) ?r10
    case h10 => (intro w hSw; (try dsimp only at hSw); go_simp; try with_reducible rfl)
    try simp only [Act.put, List.setIfInBounds_toArray, List.set_cons_zero, List.set_cons_succ]
    refine wpAnyH_done (by kernel_rfl) ?_ _
    have SE8 := settle_any DD8
    have DDH := hid DD8
    clear DD8 LA8 DL8
    go_wp2_with fail
    refine SE8.mono ?_
    rintro e w9 ⟨rfl, M9, D9, S9⟩
    clear SE8
    go_wp2_with fail
    go_ret
    exact ⟨by rw [HT.out]; rfl, M9, by rw [HT.out]; exact D9, ST8.trans S9⟩
  · have HT := hid (show s.turned r l = (cd, s.lay (r % 2) (coverT r l)) by unfold DS.turned; rw [if_neg (fun e => hc (hcd.symm.trans e)), hcd])
    have HCD := hid hcd
    have hc1 : (cd != 0) = true := by simpa using hc
    clear hcd
    go_enter Tryz.func90, Tryz.ntmps90
    go_wp2_with fail
    refine wp_region_held_drew (S := fun w' => w'.cell? ⟨xb, 0, none⟩ = some (.int .i64 r) ∧ w'.cell? ⟨xb, 1, none⟩ = some (.int .i64 l)) (by kernel_rfl) (SB _ ((Below.refl W0.heap.size W0).drew)) (fun hHeld => ?_)
    refine wpAnyH_take (i := 0) (v := ?v11) (by simp only [List.getElem?_toArray, List.getElem?_cons_zero]; rfl) (by kernel_rfl) (by kernel_rfl) (by kernel_rfl) (by exact fun _ _ _ h => h) (Or.inl ⟨by rfl, ?h11⟩) (by assumption) ?r11
    case h11 => (intro w hSw; (try dsimp only at hSw); go_simp; try with_reducible rfl)
    try simp only [Act.put, List.setIfInBounds_toArray, List.set_cons_zero, List.set_cons_succ]
    refine wpAnyH_take (i := 1) (v := ?v12) (by simp only [List.getElem?_toArray, List.getElem?_cons_zero, List.getElem?_cons_succ]; rfl) (by kernel_rfl) (by kernel_rfl) (by kernel_rfl) (by exact fun _ _ _ h => h) (Or.inl ⟨by rfl, ?h12⟩) (by assumption) ?r12
    case h12 => (intro w hSw; (try dsimp only at hSw); go_simp; try with_reducible rfl)
    try simp only [Act.put, List.setIfInBounds_toArray, List.set_cons_zero, List.set_cons_succ]
    refine wpAnyH_take (i := 2) (v := ?v13) (by simp only [List.getElem?_toArray, List.getElem?_cons_zero, List.getElem?_cons_succ]; rfl) (by kernel_rfl) (by kernel_rfl) (by kernel_rfl) (by exact fun _ _ _ h => h) (Or.inl ⟨by rfl, ?h13⟩) (by assumption) ?r13
    case h13 => (intro w hSw; (try dsimp only at hSw); go_simp; try with_reducible rfl)
    try simp only [Act.put, List.setIfInBounds_toArray, List.set_cons_zero, List.set_cons_succ]
    refine wpAnyH_take (i := 3) (v := ?v14) (by simp only [List.getElem?_toArray, List.getElem?_cons_zero, List.getElem?_cons_succ]; rfl) (by kernel_rfl) (by kernel_rfl) (by kernel_rfl) (by exact fun _ _ _ h => h) (Or.inl ⟨by rfl, ?h14⟩) (by assumption) ?r14
    case h14 => (intro w hSw; (try dsimp only at hSw); go_simp; try with_reducible rfl)
    try simp only [Act.put, List.setIfInBounds_toArray, List.set_cons_zero, List.set_cons_succ]
    refine wpAnyH_take (i := 4) (v := ?v15) (by simp only [List.getElem?_toArray, List.getElem?_cons_zero, List.getElem?_cons_succ]; rfl) (by kernel_rfl) (by kernel_rfl) (by kernel_rfl) (by exact fun _ _ _ h => h) (Or.inl ⟨by rfl, ?h15⟩) (by assumption) ?r15
    case h15 => (intro w hSw; (try dsimp only at hSw); go_simp; try with_reducible rfl)
    try simp only [Act.put, List.setIfInBounds_toArray, List.set_cons_zero, List.set_cons_succ]
    refine wpAnyH_ready (rs := [5]) (by kernel_rfl) (by simp) ?_
    refine (AllReadyH.cons (by simp only [List.getElem?_toArray, List.getElem?_cons_zero, List.getElem?_cons_succ]; rfl) (fun K hK => ?_) AllReadyH.nil)
    go_simp
    go_at_call 100
    refine (track_any r l _ hr hl).mono ?_
    rintro e wq16 ⟨v16, rfl, o16, C16⟩
    obtain ⟨b16, c16, e816, r16, -, -, lo16⟩ := own96 o16
    subst e816
    have BB16 := ((Below.refl W0.heap.size W0).drew).trans (C16.mono (Below.size ((Below.refl W0.heap.size W0).drew)))
    refine hK.out _ _ (SB _ BB16) (fun hH17 => ?_)
    clear hK
    try simp only [Act.put, List.setIfInBounds_toArray, List.set_cons_zero, List.set_cons_succ]
    refine wpAnyH_ready (rs := [6]) (by kernel_rfl) (by simp) ?_
    refine (AllReadyH.cons (by simp only [List.getElem?_toArray, List.getElem?_cons_zero, List.getElem?_cons_succ]; rfl) (fun K hK => ?_) AllReadyH.nil)
    have DL18 := D0.out.below (BB16)
    have LA18 := lay_any DL18 (r % 2) (some b16) 96 c16 (coverT r l) (r16) (coverT_length r l) (coverT_bytes r l) (fun h => by cases h) (fun _ hm => by have h1 := HM.out _ hm; have h2 := lo16; have h3 := sz0; have h4 : sB (some b16) = b16.block := rfl; have h5 : W0.heap.size ≤ b16.block := h2; omega) hu
    rw [HCD.out] at LA18
    go_simp
    go_at_call 21
    refine LA18.mono ?_
    rintro e wq18 ⟨rfl, M18, DD18, SS18⟩
    have ST18 : Step M w M18 wq18 := (S1.trans (Step.of_below (BB16))).trans SS18
    refine hK.out _ _ ⟨SS18.ext.cell hMx (Below.cellAt (BB16) lxb y0), SS18.ext.cell hMx (Below.cellAt (BB16) lxb y1)⟩ (fun hH19 => ?_)
    clear hK
    try simp only [Act.put, List.setIfInBounds_toArray, List.set_cons_zero, List.set_cons_succ]
    refine wpAnyH_take (i := 7) (v := ?v20) (by simp only [List.getElem?_toArray, List.getElem?_cons_zero, List.getElem?_cons_succ]; rfl) (by kernel_rfl) (by kernel_rfl) (by kernel_rfl) (by exact fun _ _ _ h => h) (Or.inl ⟨by rfl, ?h20⟩) (by assumption) ?r20
    case h20 => (intro w hSw; (try dsimp only at hSw); go_simp; try with_reducible rfl)
    try simp only [Act.put, List.setIfInBounds_toArray, List.set_cons_zero, List.set_cons_succ]
    refine wpAnyH_done (by kernel_rfl) ?_ _
    have DDH := hid DD18
    clear DD18 LA18 DL18
    go_wp2_with fail
    go_ret
    exact ⟨by rw [HT.out]; rfl, M18, by rw [HT.out]; exact DDH.out, ST18⟩

theorem founded_no {s : DS} {l : Int} (h : mayC 1 l s.n = false) : s.founded l = (1, s) := by unfold DS.founded; rw [h]; rfl
theorem founded_stop {s : DS} {l : Int} (h : mayC 1 l s.n = true) {k : Nat} (hk : k ≤ (2 + l).toNat) (hs : (s.lays (zLays k)).1 ≠ 0) : s.founded l = s.lays (zLays k) := by
  obtain ⟨r, hr⟩ := zLays_le hk
  have e : s.lays (zLays (2 + l).toNat) = s.lays (zLays k) := by rw [hr]; exact DS.lays_stop _ _ _ hs
  unfold DS.founded
  rw [if_pos h, e, if_neg hs]

set_option maxRecDepth 100000 in
set_option maxHeartbeats 8000000 in
theorem found_any {w : World} {M : Dom} {d : Nat} {s : DS} (h : DrumAt w M d s) (l : Int) (hl : -1000000000 ≤ l ∧ l ≤ 1000000000) (hu : s.up.length < 500000000) :
    Calls Tryz.prog 61 #[.pointer (some ⟨d, 0, none⟩), .int .i64 l] w fun e w' => e = .returned (.int .i64 (s.founded l).1) ∧ ∃ M', DrumAt w' M' d (s.founded l).2 ∧ Step M w M' w' := by
  have m96 := fun W => mkU (n := 96) (by omega) W
  simp only [show ((96 : Nat) : Int) = 96 from rfl] at m96
  obtain ⟨z96, hz96⟩ : ∃ z, (B8 (List.replicate 96 0)).toArray = z := ⟨_, rfl⟩
  rw [hz96] at m96
  have RZ : ∀ W : World, Row (W.alloc (.cells z96 5)) (some ⟨W.heap.size, 0, none⟩) (B8 zeros96) := fun W => by
    have := row_at W z96 5 rfl
    rw [← hz96] at this ⊢
    exact this
  have hn1 : s.n ≤ 1000000 := by obtain ⟨p, -, h⟩ := h; exact h.n1
  obtain ⟨W0, hW0⟩ : ∃ W0, w.alloc (.cells #[.int .i64 1, .int .i64 l] 120) = W0 := ⟨_, rfl⟩
  have BW0 : Below w.heap.size w W0 := by rw [← hW0]; exact (Below.refl _ _).alloc (Nat.le_refl _) _
  have x1 : W0.heap[w.heap.size]? = some (.cells #[.int .i64 1, .int .i64 l] 120 (0, 0)) := by rw [← hW0]; exact blk_new _ _
  obtain ⟨xb, hxb⟩ : ∃ xb, w.heap.size = xb := ⟨_, rfl⟩
  rw [hxb] at x1
  have lxb : xb < W0.heap.size := lt_of_blk x1
  have y0 : W0.cell? ⟨xb, 0, none⟩ = some (.int .i64 1) := blk_cell x1 rfl
  have y1 : W0.cell? ⟨xb, 1, none⟩ = some (.int .i64 l) := blk_cell x1 rfl
  have hMx : ¬ M xb := fun hm => by have := h.ml xb hm; omega
  clear x1 hz96
  have SB : ∀ W, Below W0.heap.size W0 W → W.cell? ⟨xb, 0, none⟩ = some (.int .i64 1) ∧ W.cell? ⟨xb, 1, none⟩ = some (.int .i64 l) := fun W h => ⟨Below.cellAt h lxb y0, Below.cellAt h lxb y1⟩
  have S1 := hid (show Step M w M W0 from Step.of_below BW0)
  have D0 := hid (h.below BW0)
  have HM := hid h.ml
  have sz0 := BW0.size
  clear h BW0
  obtain ⟨my, hmy⟩ : ∃ my, mayC 1 l s.n = my := ⟨_, rfl⟩
  have MC := fun W => mayC_any 1 l s.n W (by omega) (by omega) (by omega)
  rw [hmy] at MC
  have HMY := hid hmy
  cases my with
  | false =>
    have HF := hid (founded_no hmy)
    clear hmy
    go_enter Tryz.func61, Tryz.ntmps61
    go_wp2_with fail
    refine wp_region_held_drew (S := fun w' => w'.cell? ⟨xb, 0, none⟩ = some (.int .i64 1) ∧ w'.cell? ⟨xb, 1, none⟩ = some (.int .i64 l)) (by kernel_rfl) (SB _ ((Below.refl W0.heap.size W0).drew)) (fun hHeld => ?_)
    refine wpAnyH_take (i := 0) (v := ?v21) (by simp only [List.getElem?_toArray, List.getElem?_cons_zero]; rfl) (by kernel_rfl) (by kernel_rfl) (by kernel_rfl) (by exact fun _ _ _ h => h) (Or.inl ⟨by rfl, ?h21⟩) (by assumption) ?r21
    case h21 => (intro w hSw; (try dsimp only at hSw); go_simp; try with_reducible rfl)
    try simp only [Act.put, List.setIfInBounds_toArray, List.set_cons_zero, List.set_cons_succ]
    refine wpAnyH_take (i := 1) (v := ?v22) (by simp only [List.getElem?_toArray, List.getElem?_cons_zero, List.getElem?_cons_succ]; rfl) (by kernel_rfl) (by kernel_rfl) (by kernel_rfl) (by exact fun _ _ _ h => h) (Or.inl ⟨by rfl, ?h22⟩) (by assumption) ?r22
    case h22 => (intro w hSw; (try dsimp only at hSw); go_simp; try with_reducible rfl)
    try simp only [Act.put, List.setIfInBounds_toArray, List.set_cons_zero, List.set_cons_succ]
    refine wpAnyH_take (i := 2) (v := ?v23) (by simp only [List.getElem?_toArray, List.getElem?_cons_zero, List.getElem?_cons_succ]; rfl) (by kernel_rfl) (by kernel_rfl) (by kernel_rfl) (by exact fun _ _ _ h => h) (Or.inl ⟨by rfl, ?h23⟩) (by assumption) ?r23
    case h23 => (intro w hSw; (try dsimp only at hSw); go_simp; try with_reducible rfl)
    try simp only [Act.put, List.setIfInBounds_toArray, List.set_cons_zero, List.set_cons_succ]
    refine wpAnyH_take (i := 3) (v := ?v24) (by simp only [List.getElem?_toArray, List.getElem?_cons_zero, List.getElem?_cons_succ]; rfl) (by kernel_rfl) (by kernel_rfl) (by kernel_rfl) (by exact fun _ _ _ h => h) (Or.inl ⟨by rfl, ?h24⟩) (by assumption) ?r24
    case h24 => (intro w hSw; (try dsimp only at hSw); go_simp; try with_reducible rfl)
    try simp only [Act.put, List.setIfInBounds_toArray, List.set_cons_zero, List.set_cons_succ]
    refine wpAnyH_take (i := 4) (v := ?v25) (by simp only [List.getElem?_toArray, List.getElem?_cons_zero, List.getElem?_cons_succ]; rfl) (by kernel_rfl) (by kernel_rfl) (by kernel_rfl) (by exact fun _ _ _ h => h) (Or.inl ⟨by rfl, ?h25⟩) (by assumption) ?r25
    case h25 => (intro w hSw; (try dsimp only at hSw); go_simp; try with_reducible rfl)
    try simp only [Act.put, List.setIfInBounds_toArray, List.set_cons_zero, List.set_cons_succ]
    refine wpAnyH_ready (rs := [5]) (by kernel_rfl) (by simp) ?_
    refine (AllReadyH.cons (by simp only [List.getElem?_toArray, List.getElem?_cons_zero, List.getElem?_cons_succ]; rfl) (fun K hK => ?_) AllReadyH.nil)
    go_simp
    go_at_call 86
    refine (tracks_any (D0.out.below ((Below.refl W0.heap.size W0).drew))).mono ?_
    rintro e wq26 ⟨rfl, rfl⟩
    refine hK.out _ _ (SB _ (Below.refl W0.heap.size W0).drew) (fun hH27 => ?_)
    clear hK
    try simp only [Act.put, List.setIfInBounds_toArray, List.set_cons_zero, List.set_cons_succ]
    refine wpAnyH_ready (rs := [6]) (by kernel_rfl) (by simp) ?_
    refine (AllReadyH.cons (by simp only [List.getElem?_toArray, List.getElem?_cons_zero, List.getElem?_cons_succ]; rfl) (fun K hK => ?_) AllReadyH.nil)
    go_simp
    go_at_call 89
    refine (MC _).mono ?_
    rintro e wq28 ⟨rfl, C28⟩
    have BB28 := ((Below.refl W0.heap.size W0).drew).trans (C28.mono (Below.size ((Below.refl W0.heap.size W0).drew)))
    refine hK.out _ _ (SB _ BB28) (fun hH29 => ?_)
    clear hK
    try simp only [Act.put, List.setIfInBounds_toArray, List.set_cons_zero, List.set_cons_succ]
    refine wpAnyH_take (i := 7) (v := ?v30) (by simp only [List.getElem?_toArray, List.getElem?_cons_zero, List.getElem?_cons_succ]; rfl) (by kernel_rfl) (by kernel_rfl) (by kernel_rfl) (by exact fun _ _ _ h => h) (Or.inl ⟨by rfl, ?h30⟩) (by assumption) ?r30
    case h30 => (intro w hSw; (try dsimp only at hSw); go_simp; try with_reducible rfl)
    try simp only [Act.put, List.setIfInBounds_toArray, List.set_cons_zero, List.set_cons_succ]
    refine wpAnyH_take (i := 8) (v := ?v31) (by simp only [List.getElem?_toArray, List.getElem?_cons_zero, List.getElem?_cons_succ]; rfl) (by kernel_rfl) (by kernel_rfl) (by kernel_rfl) (by exact fun _ _ _ h => h) (Or.inl ⟨by rfl, ?h31⟩) (by assumption) ?r31
    case h31 => (intro w hSw; (try dsimp only at hSw); go_simp; try with_reducible rfl)
    try simp only [Act.put, List.setIfInBounds_toArray, List.set_cons_zero, List.set_cons_succ]
    refine wpAnyH_done (by kernel_rfl) ?_ _
    have DB := hid (D0.out.below (BB28))
    have SS := hid (S1.out.trans (Step.of_below (M := M) (BB28)))
    go_wp2_with fail
    go_ret
    exact ⟨by rw [HF.out]; rfl, M, by rw [HF.out]; exact DB.out, SS.out⟩
  | true =>
    have hl5 : 5 ≤ l ∧ l ≤ 1000000 := by
      unfold mayC at hmy
      simp at hmy
      omega
    obtain ⟨nL, hnL, hnL2⟩ : ∃ nL : Nat, 2 + l = (nL : Int) ∧ (2 + l).toNat = nL := ⟨(2 + l).toNat, by omega, rfl⟩
    have HNL := hid hnL2
    have HMY2 := hid hmy
    clear hmy hnL2
    go_enter Tryz.func61, Tryz.ntmps61
    go_wp2_with fail
    refine wp_region_held_drew (S := fun w' => w'.cell? ⟨xb, 0, none⟩ = some (.int .i64 1) ∧ w'.cell? ⟨xb, 1, none⟩ = some (.int .i64 l)) (by kernel_rfl) (SB _ ((Below.refl W0.heap.size W0).drew)) (fun hHeld => ?_)
    refine wpAnyH_take (i := 0) (v := ?v32) (by simp only [List.getElem?_toArray, List.getElem?_cons_zero]; rfl) (by kernel_rfl) (by kernel_rfl) (by kernel_rfl) (by exact fun _ _ _ h => h) (Or.inl ⟨by rfl, ?h32⟩) (by assumption) ?r32
    case h32 => (intro w hSw; (try dsimp only at hSw); go_simp; try with_reducible rfl)
    try simp only [Act.put, List.setIfInBounds_toArray, List.set_cons_zero, List.set_cons_succ]
    refine wpAnyH_take (i := 1) (v := ?v33) (by simp only [List.getElem?_toArray, List.getElem?_cons_zero, List.getElem?_cons_succ]; rfl) (by kernel_rfl) (by kernel_rfl) (by kernel_rfl) (by exact fun _ _ _ h => h) (Or.inl ⟨by rfl, ?h33⟩) (by assumption) ?r33
    case h33 => (intro w hSw; (try dsimp only at hSw); go_simp; try with_reducible rfl)
    try simp only [Act.put, List.setIfInBounds_toArray, List.set_cons_zero, List.set_cons_succ]
    refine wpAnyH_take (i := 2) (v := ?v34) (by simp only [List.getElem?_toArray, List.getElem?_cons_zero, List.getElem?_cons_succ]; rfl) (by kernel_rfl) (by kernel_rfl) (by kernel_rfl) (by exact fun _ _ _ h => h) (Or.inl ⟨by rfl, ?h34⟩) (by assumption) ?r34
    case h34 => (intro w hSw; (try dsimp only at hSw); go_simp; try with_reducible rfl)
    try simp only [Act.put, List.setIfInBounds_toArray, List.set_cons_zero, List.set_cons_succ]
    refine wpAnyH_take (i := 3) (v := ?v35) (by simp only [List.getElem?_toArray, List.getElem?_cons_zero, List.getElem?_cons_succ]; rfl) (by kernel_rfl) (by kernel_rfl) (by kernel_rfl) (by exact fun _ _ _ h => h) (Or.inl ⟨by rfl, ?h35⟩) (by assumption) ?r35
    case h35 => (intro w hSw; (try dsimp only at hSw); go_simp; try with_reducible rfl)
    try simp only [Act.put, List.setIfInBounds_toArray, List.set_cons_zero, List.set_cons_succ]
    refine wpAnyH_take (i := 4) (v := ?v36) (by simp only [List.getElem?_toArray, List.getElem?_cons_zero, List.getElem?_cons_succ]; rfl) (by kernel_rfl) (by kernel_rfl) (by kernel_rfl) (by exact fun _ _ _ h => h) (Or.inl ⟨by rfl, ?h36⟩) (by assumption) ?r36
    case h36 => (intro w hSw; (try dsimp only at hSw); go_simp; try with_reducible rfl)
    try simp only [Act.put, List.setIfInBounds_toArray, List.set_cons_zero, List.set_cons_succ]
    refine wpAnyH_ready (rs := [5]) (by kernel_rfl) (by simp) ?_
    refine (AllReadyH.cons (by simp only [List.getElem?_toArray, List.getElem?_cons_zero, List.getElem?_cons_succ]; rfl) (fun K hK => ?_) AllReadyH.nil)
    go_simp
    go_at_call 86
    refine (tracks_any (D0.out.below ((Below.refl W0.heap.size W0).drew))).mono ?_
    rintro e wq37 ⟨rfl, rfl⟩
    refine hK.out _ _ (SB _ (Below.refl W0.heap.size W0).drew) (fun hH38 => ?_)
    clear hK
    try simp only [Act.put, List.setIfInBounds_toArray, List.set_cons_zero, List.set_cons_succ]
    refine wpAnyH_ready (rs := [6]) (by kernel_rfl) (by simp) ?_
    refine (AllReadyH.cons (by simp only [List.getElem?_toArray, List.getElem?_cons_zero, List.getElem?_cons_succ]; rfl) (fun K hK => ?_) AllReadyH.nil)
    go_simp
    go_at_call 89
    refine (MC _).mono ?_
    rintro e wq39 ⟨rfl, C39⟩
    have BB39 := ((Below.refl W0.heap.size W0).drew).trans (C39.mono (Below.size ((Below.refl W0.heap.size W0).drew)))
    refine hK.out _ _ (SB _ BB39) (fun hH40 => ?_)
    clear hK
    try simp only [Act.put, List.setIfInBounds_toArray, List.set_cons_zero, List.set_cons_succ]
    refine wpAnyH_take (i := 7) (v := ?v41) (by simp only [List.getElem?_toArray, List.getElem?_cons_zero, List.getElem?_cons_succ]; rfl) (by kernel_rfl) (by kernel_rfl) (by kernel_rfl) (by exact fun _ _ _ h => h) (Or.inl ⟨by rfl, ?h41⟩) (by assumption) ?r41
    case h41 => (intro w hSw; (try dsimp only at hSw); go_simp; try with_reducible rfl)
    try simp only [Act.put, List.setIfInBounds_toArray, List.set_cons_zero, List.set_cons_succ]
    refine wpAnyH_take (i := 8) (v := ?v42) (by simp only [List.getElem?_toArray, List.getElem?_cons_zero, List.getElem?_cons_succ]; rfl) (by kernel_rfl) (by kernel_rfl) (by kernel_rfl) (by exact fun _ _ _ h => h) (Or.inl ⟨by rfl, ?h42⟩) (by assumption) ?r42
    case h42 => (intro w hSw; (try dsimp only at hSw); go_simp; try with_reducible rfl)
    try simp only [Act.put, List.setIfInBounds_toArray, List.set_cons_zero, List.set_cons_succ]
    refine wpAnyH_done (by kernel_rfl) ?_ _
    have D1 := hid (D0.out.below (BB39))
    have SW1 := hid (show Step M W0 M wq39 from Step.of_below (BB39))
    go_wp2_with fail
    go_loopw [22] (fun i wr => ∃ (k : Nat) (M1 : Dom), i = .int .i64 k ∧ k ≤ nL ∧ Hid ((s.lays (zLays k)).1 = 0) ∧ Hid (DrumAt wr M1 d (s.lays (zLays k)).2) ∧ Hid (Step M W0 M1 wr)) (fun i _ => nL - (intOf i).toNat)
    case atStart => exact ⟨0, M, rfl, Nat.zero_le _, hid rfl, D1, SW1⟩
    case round =>
      obtain ⟨k, M1, rfl, hk, HC, DK, SK⟩ := hrel
      have upk := DS.lays_n s (zLays k)
      rw [zLays_length] at upk
      by_cases hlt : k < nL
      · have rz := RZ wr
        have BA : Below wr.heap.size wr (wr.alloc (.cells z96 5)) := (Below.refl _ _).alloc (Nat.le_refl _) _
        have DA := DK.out.below BA
        have SN := DS.lays_snoc s (zLays k) ((k : Int), zeros96) HC.out
        rw [← zLays_succ] at SN
        have LA := lay_any DA (k : Int) (some ⟨wr.heap.size, 0, none⟩) 96 96 zeros96 rz zeros96_len (fun x hx => by have := (List.mem_replicate.1 hx).2; subst this; decide) (fun h => by cases h) (fun _ hm => by have h1 := DK.out.ml _ hm; have h4 : sB (some (⟨wr.heap.size, 0, none⟩ : Addr)) = wr.heap.size := rfl; omega) (by omega)
        obtain ⟨cd, hcd⟩ : ∃ cd, (s.lays (zLays k)).2.layCode (k : Int) zeros96 = cd := ⟨_, rfl⟩
        rw [hcd] at LA
        simp only at SN
        rw [hcd] at SN
        have HSN := hid SN
        have BAH := hid BA
        clear SN hcd rz DA BA
        by_cases hc : cd = 0
        · subst hc
          go_wp2_with fail
          refine LA.mono ?_
          rintro e w5 ⟨rfl, M5, D5, S5⟩
          have D5H := hid (show DrumAt w5 M5 d (s.lays (zLays (k + 1))).2 by rw [HSN.out]; exact D5)
          have S5H := hid ((SK.out.trans (Step.of_below BAH.out)).trans S5)
          clear LA D5 S5
          go_wp2_with fail
          go_roundw
          case measure => simp [intOf]; omega
          case rel => exact ⟨k + 1, M5, by go_num, by omega, hid (by rw [HSN.out]), D5H, S5H⟩
        · have hc1 : (cd != 0) = true := by simpa using hc
          have HF := hid (founded_stop (s := s) (l := l) HMY2.out (k := k + 1) (by rw [HNL.out]; omega) (by rw [HSN.out]; exact hc))
          go_wp2_with fail
          refine LA.mono ?_
          rintro e w5 ⟨rfl, M5, D5, S5⟩
          have D5H := hid D5
          have S5H := hid ((S1.out.trans (SK.out.trans (Step.of_below BAH.out))).trans S5)
          clear LA D5 S5
          go_wp2_with fail
          go_ret
          exact ⟨by rw [HF.out, HSN.out]; rfl, M5, by rw [HF.out, HSN.out]; exact D5H.out, S5H.out⟩
      · obtain rfl : nL = k := by omega
        have SE := settle_any DK.out
        obtain ⟨cd, hcd⟩ : ∃ cd, (s.lays (zLays nL)).2.code = cd := ⟨_, rfl⟩
        rw [hcd] at SE
        have HCD := hid hcd
        have z0 := SK.out.ext.cell hMx y0
        have z1 := SK.out.ext.cell hMx y1
        have HUP := hid upk
        clear hcd upk
        by_cases hc : cd = 0
        · have HF := hid (show s.founded l = (s.lays (zLays nL)).2.settle.turned 1 l by unfold DS.founded; rw [if_pos HMY2.out, HNL.out, if_pos HC.out, HCD.out, if_pos hc])
          subst hc
          go_wp2_with fail
          refine SE.mono ?_
          rintro e w5 ⟨rfl, M5, D5, S5⟩
          have TU := turned_any D5 1 l (by omega) (by omega) (by have h1 := DS.settle_up (s.lays (zLays nL)).2; have h2 := HUP.out.2; omega)
          have hM1 : ¬ M1 xb := fun hm => by
            rcases SK.out.new xb hm with h | h
            · exact hMx h
            · omega
          have z0' := S5.ext.cell hM1 z0
          have z1' := S5.ext.cell hM1 z1
          have S5H := hid S5
          clear SE D5 S5 z0 z1
          go_wp2_with fail
          refine TU.mono ?_
          rintro e w6 ⟨rfl, M6, D6, S6⟩
          have D6H := hid D6
          have S6H := hid (((S1.out.trans SK.out).trans S5H.out).trans S6)
          clear TU D6 S6
          go_wp2_with fail
          go_ret
          exact ⟨by rw [HF.out]; rfl, M6, by rw [HF.out]; exact D6H.out, S6H.out⟩
        · have hc1 : (cd != 0) = true := by simpa using hc
          have HF := hid (show s.founded l = (cd, (s.lays (zLays nL)).2.settle) by unfold DS.founded; rw [if_pos HMY2.out, HNL.out, if_pos HC.out, HCD.out, if_neg hc])
          go_wp2_with fail
          refine SE.mono ?_
          rintro e w5 ⟨rfl, M5, D5, S5⟩
          have D5H := hid D5
          have S5H := hid ((S1.out.trans SK.out).trans S5)
          clear SE D5 S5
          go_wp2_with fail
          go_ret
          exact ⟨by rw [HF.out]; rfl, M5, by rw [HF.out]; exact D5H.out, S5H.out⟩

end Go.Proofs.YtleoelhhndeheaaGreat
