import Derived.Test.YtleoelhhndeheaaGreatVRun
/- package vault: Keep, whatever the drum does; what stands without a drum; a drum that was not founded -/
open Go Go.RowKit
open Go.Maps (Keyed has)
namespace Go.Proofs.YtleoelhhndeheaaGreat

/-- what a Keep answers, whatever the drum does -/
def KeepGAns (w : World) (M : Dom) (B C : Nat → Prop) (d l v : Nat) (now kept : Rcs) (r : Int × LS × DS) (e : Ending) (w' : World) : Prop :=
  (turnedL kept now = [] ∧ e = .returned (.int .i64 0) ∧ Below w.heap.size w w') ∨
  (turnedL kept now ≠ [] ∧ ∃ M' B' C' mb', LStep M (fun q => B q ∨ C q) w M' (fun q => B' q ∨ C' q) w' ∧ e = .returned (.int .i64 r.1) ∧
    ((r.1 = 0 ∧ VSys w' M' B' C' d l mb' v r.2.2 r.2.1 now now) ∨ (r.1 = 5 ∧ VSys w' M' B' C' d l mb' v r.2.2 r.2.1 kept kept) ∨ ((r.1 ≠ 0 ∧ r.1 ≠ 5) ∧ VSys w' M' B' C' d l mb' v r.2.2 r.2.1 now kept)))

set_option maxRecDepth 100000 in
set_option maxHeartbeats 8000000 in
theorem keepG {w : World} {M : Dom} {B C : Nat → Prop} {d l mb v : Nat} {s : DS} {L : LS} {now kept : Rcs} {H : Nat} (h : VSys w M B C d l mb v s L now kept) (hlo : L.lost = false) (ok : L.Ok s) (hr : L.round < 281474976700000) (hu : s.up.length < 300000000) (hH : 2 ≤ H ∧ H ≤ 600) (okn : RcsOk now H) (okk : RcsOk kept H) :
    Calls Tryz.prog 17 #[.pointer (some ⟨v, 0, none⟩)] w (KeepGAns w M B C d l v now kept (L.write s (turnedL kept now))) := by
  have HV := hid h
  have LO := lostV_any h
  rw [hlo] at LO
  have TU := turnedV_any h ⟨hH.1, by omega⟩ okn okk
  obtain ⟨d1, t1, d2, t2, h2⟩ := h.out
  obtain ⟨c0, c1, c2, c3, c4⟩ := h2.cells
  have lvw := lt_of_cell c0
  obtain ⟨el, hel⟩ : ∃ el, turnedL kept now = el := ⟨_, rfl⟩
  rw [hel] at TU
  have HEL := hid hel
  have ELB := hid (show el.length ≤ 600 by rw [← hel]; have := turned_le (K := kept) okn hH.1; omega)
  have HOK := hid ok
  have HOKN := hid okn
  have HOKK := hid okk
  rw [hel]
  obtain ⟨r, hrr⟩ : ∃ r, L.write s el = r := ⟨_, rfl⟩
  have HRR := hid hrr
  rw [hrr]
  obtain ⟨k, L', s'⟩ := r
  clear h h2 hel okn okk ok hrr
  go_enter Tryz.func17, Tryz.ntmps17
  go_wp2_with fail
  refine LO.mono ?_
  rintro e w1 ⟨rfl, rfl⟩
  clear LO
  go_wp2_with fail
  refine TU.mono ?_
  rintro e w2 ⟨u, rfl, EO, B2⟩
  clear TU
  obtain ⟨a, c, rfl, EA, hlc⟩ := EO.out (N := inD M) (fun q hq _ => by
    rcases Nat.lt_or_ge q w.heap.size with h | h
    · exact h
    · exact absurd hq (HV.out.free h))
  have HB2 := hid B2
  have HV2 := hid (HV.out.below B2)
  have HEA := hid EA
  have k0 := Below.cellAt B2 lvw c0
  obtain ⟨m, hm⟩ : ∃ m, el.length = m := ⟨_, rfl⟩
  have HM := hid hm
  rw [hm]
  have HC := hid hlc
  clear EO B2 EA hlc hm
  by_cases hm0 : m = 0
  · subst hm0
    have hnil := hid (show turnedL kept now = [] by rw [HEL.out]; exact List.eq_nil_of_length_eq_zero HM.out)
    go_wp2_with fail
    go_ret
    exact .inl ⟨hnil.out, rfl, HB2.out⟩
  · have hm1 : ((m : Int) == 0) = false := by simp; omega
    have WU := write_any HV2.out.sys HOK.out hr hu a m c el (by rw [← HM.out]; exact HEA.out) (by have := ELB.out; rw [HM.out] at this; omega)
    rw [HRR.out] at WU
    have hne := hid (show turnedL kept now ≠ [] by
      rw [HEL.out]
      intro e
      rw [e] at HM
      exact hm0 HM.out.symm)
    go_wp2_with fail
    refine WU.mono ?_
    rintro e w3 ⟨rfl, M3, B3, mb3, SY3, T3⟩
    have VS3 := hid (HV2.out.lstep SY3 T3)
    have T3H := hid (((LStep.of_below HB2.out).trans T3).vault (C := C))
    clear WU SY3 T3
    by_cases hk0 : k = 0
    · subst hk0
      obtain ⟨e1, e2, e3, e4, h3⟩ := VS3.out.out
      obtain ⟨f0, f1, f2, f3, f4⟩ := h3.cells
      have CO := copied_any h3.now (fun x hx => by
        cases hn : now x with
        | none => rw [hn] at hx; cases hx
        | some y => have := HOKN.out.id x y hn; omega)
      have H3 := hid h3
      clear h3 k0
      go_wp2_with fail
      refine CO.mono ?_
      rintro e w4 ⟨dn, tn, rfl, ld, lt, RP, B4⟩
      clear CO
      have obj1 : w4.heap[v]? = some (.cells (vltCells l e1 e2 e3 e4) 71 (0, 0)) := (Ext.of_below B4 (fun _ => False)).blk (fun h => h) H3.out.obj
      have g3 := blk_cell (o := 3) (v := .map (some e3)) obj1 rfl
      have g4 := blk_cell (o := 4) (v := .map (some e4)) obj1 rfl
      have fr := fun o => blk_free (o := o) obj1
      have HRP := hid RP
      have OB := hid obj1
      have HB4 := hid B4
      clear obj1 RP B4 f0 f1 f2 f3 f4
      go_wp2_with fail
      go_ret
      obtain ⟨VF, ST⟩ := VSys.rekept VS3.out H3.out HB4.out OB.out HRP.out ld lt
      exact .inr ⟨hne.out, _, _, _, _, T3H.out.trans (ST.vault (B := B3)), rfl, .inl ⟨rfl, VF⟩⟩
    · have hkz : (k == 0) = false := by simp [hk0]
      by_cases hk5 : k = 5
      · subst hk5
        have UN := undoV_any VS3.out HOKK.out
        go_wp2_with fail
        refine UN.mono ?_
        rintro e w4 ⟨rfl, M4, C4, VS4, ST4⟩
        have VS4H := hid VS4
        have ST4H := hid (ST4.vault (B := B3))
        clear UN VS4 ST4
        go_wp2_with fail
        go_ret
        exact .inr ⟨hne.out, _, _, _, _, T3H.out.trans ST4H.out, rfl, .inr (.inl ⟨rfl, VS4H.out⟩)⟩
      · have hk5z : (k == 5) = false := by simp [hk5]
        go_wp2_with fail
        go_ret
        exact .inr ⟨hne.out, _, _, _, _, T3H.out, rfl, .inr (.inr ⟨⟨hk0, hk5⟩, VS3.out⟩)⟩

end Go.Proofs.YtleoelhhndeheaaGreat

/- VaultKnown: what has no drum, a drum that was not founded, a drum that breaks -/
open Go Go.RowKit
open Go.Maps (Keyed has)
namespace Go.Proofs.YtleoelhhndeheaaGreat

theorem openNil_any (w : World) : Calls Tryz.prog 48 #[.pointer none] w fun e w' => e = .returned (.tuple #[.pointer none, .int .i64 1]) ∧ Below w.heap.size w w' := by
  go_enter Tryz.func48, Tryz.ntmps48
  go_wp2_with fail
  go_ret2
  exact ⟨rfl, Below.refl _ _⟩
theorem foundNil_any (l : Int) (w : World) : Calls Tryz.prog 61 #[.pointer none, .int .i64 l] w fun e w' => e = .returned (.int .i64 1) ∧ Below w.heap.size w w' := by
  obtain ⟨W0, hW0⟩ : ∃ W0, w.alloc (.cells #[.int .i64 1, .int .i64 l] 120) = W0 := ⟨_, rfl⟩
  have hB1 : Below w.heap.size w W0 := by rw [← hW0]; exact (Below.refl _ _).alloc (Nat.le_refl _) _
  have SV : ∀ W, Below W0.heap.size W0 W → True := fun _ _ => trivial
  go_enter Tryz.func61, Tryz.ntmps61
  go_wp2_with fail
  refine wp_region_held_drew (S := fun _ => True) (by kernel_rfl) (SV _ ((Below.refl W0.heap.size W0).drew)) (fun hHeld => ?_)
  refine wpAnyH_take (i := 0) (v := ?v1) (by simp only [List.getElem?_toArray, List.getElem?_cons_zero]; rfl) (by kernel_rfl) (by kernel_rfl) (by kernel_rfl) (by exact fun _ _ _ h => h) (Or.inl ⟨by rfl, ?h1⟩) (by assumption) ?r1
  case h1 => (intro w hSw; (try dsimp only at hSw); go_simp; try with_reducible rfl)
  try simp only [Act.put, List.setIfInBounds_toArray, List.set_cons_zero, List.set_cons_succ]
  refine wpAnyH_take (i := 1) (v := ?v2) (by simp only [List.getElem?_toArray, List.getElem?_cons_zero, List.getElem?_cons_succ]; rfl) (by kernel_rfl) (by kernel_rfl) (by kernel_rfl) (by exact fun _ _ _ h => h) (Or.inl ⟨by rfl, ?h2⟩) (by assumption) ?r2
  case h2 => (intro w hSw; (try dsimp only at hSw); go_simp; try with_reducible rfl)
  try simp only [Act.put, List.setIfInBounds_toArray, List.set_cons_zero, List.set_cons_succ]
  refine wpAnyH_take (i := 2) (v := ?v3) (by simp only [List.getElem?_toArray, List.getElem?_cons_zero, List.getElem?_cons_succ]; rfl) (by kernel_rfl) (by kernel_rfl) (by kernel_rfl) (by exact fun _ _ _ h => h) (Or.inl ⟨by rfl, ?h3⟩) (by assumption) ?r3
  case h3 => (intro w hSw; (try dsimp only at hSw); go_simp; try with_reducible rfl)
  try simp only [Act.put, List.setIfInBounds_toArray, List.set_cons_zero, List.set_cons_succ]
  refine wpAnyH_take (i := 3) (v := undef) (by simp only [List.getElem?_toArray, List.getElem?_cons_zero, List.getElem?_cons_succ]; rfl) (by kernel_rfl) (by kernel_rfl) (by kernel_rfl) (by exact fun _ _ _ h => h) (Or.inr ⟨by rfl, rfl⟩) (by assumption) ?r4
  try simp only [Act.put, List.setIfInBounds_toArray, List.set_cons_zero, List.set_cons_succ]
  refine wpAnyH_take (i := 4) (v := undef) (by simp only [List.getElem?_toArray, List.getElem?_cons_zero, List.getElem?_cons_succ]; rfl) (by kernel_rfl) (by kernel_rfl) (by kernel_rfl) (by exact fun _ _ _ h => h) (Or.inr ⟨by rfl, rfl⟩) (by assumption) ?r5
  try simp only [Act.put, List.setIfInBounds_toArray, List.set_cons_zero, List.set_cons_succ]
  refine wpAnyH_take (i := 5) (v := undef) (by simp only [List.getElem?_toArray, List.getElem?_cons_zero, List.getElem?_cons_succ]; rfl) (by kernel_rfl) (by kernel_rfl) (by kernel_rfl) (by exact fun _ _ _ h => h) (Or.inr ⟨by rfl, rfl⟩) (by assumption) ?r6
  try simp only [Act.put, List.setIfInBounds_toArray, List.set_cons_zero, List.set_cons_succ]
  refine wpAnyH_take (i := 6) (v := undef) (by simp only [List.getElem?_toArray, List.getElem?_cons_zero, List.getElem?_cons_succ]; rfl) (by kernel_rfl) (by kernel_rfl) (by kernel_rfl) (by exact fun _ _ _ h => h) (Or.inr ⟨by rfl, rfl⟩) (by assumption) ?r7
  try simp only [Act.put, List.setIfInBounds_toArray, List.set_cons_zero, List.set_cons_succ]
  refine wpAnyH_take (i := 7) (v := undef) (by simp only [List.getElem?_toArray, List.getElem?_cons_zero, List.getElem?_cons_succ]; rfl) (by kernel_rfl) (by kernel_rfl) (by kernel_rfl) (by exact fun _ _ _ h => h) (Or.inr ⟨by rfl, rfl⟩) (by assumption) ?r8
  try simp only [Act.put, List.setIfInBounds_toArray, List.set_cons_zero, List.set_cons_succ]
  refine wpAnyH_take (i := 8) (v := ?v9) (by simp only [List.getElem?_toArray, List.getElem?_cons_zero, List.getElem?_cons_succ]; rfl) (by kernel_rfl) (by kernel_rfl) (by kernel_rfl) (by exact fun _ _ _ h => h) (Or.inl ⟨by rfl, ?h9⟩) (by assumption) ?r9
  case h9 => (intro w hSw; (try dsimp only at hSw); go_simp; try with_reducible rfl)
  try simp only [Act.put, List.setIfInBounds_toArray, List.set_cons_zero, List.set_cons_succ]
  refine wpAnyH_done (by kernel_rfl) ?_ _
  have BE := hid ((Below.refl W0.heap.size W0).drew)
  go_wp2_with fail
  go_ret
  exact ⟨rfl, hB1.trans (BE.out.mono hB1.size)⟩
theorem new_blank (n : Nat) : (DS.new n).openL = (11, openedL (DS.new n), DS.new n) := by
  have hc : ∀ k, isCover (DS.new n) k = false := fun k => by
    unfold isCover
    have : num (cut ((DS.new n).now k) 0 4) = 0 := (by decide : num (cut zeros96 0 4) = 0)
    rw [this]
    rfl
  have hb : ∀ k b, better (DS.new n) k b = b := fun k b => by
    unfold better
    rw [if_neg (by rw [hc]; simp)]
  have hr : readC (DS.new n) = (0, 0) := by unfold readC; rw [hb, hb]
  unfold DS.openL
  rw [if_neg (by show ¬ (false = true); simp), hr, if_pos rfl]
theorem openVnil_any (w : World) : Calls Tryz.prog 18 #[.pointer none] w fun e w' => e = .returned (.tuple #[.pointer none, .int .i64 1]) ∧ Below w.heap.size w w' := by
  go_enter Tryz.func18, Tryz.ntmps18
  go_wp2_with fail
  refine (openNil_any w).mono ?_
  rintro e w1 ⟨rfl, B1⟩
  have HB := hid B1
  clear B1
  go_wp2_with fail
  go_ret2
  exact ⟨rfl, HB.out⟩
theorem foundVnil_any (l : Int) (w : World) : Calls Tryz.prog 35 #[.pointer none, .int .i64 l] w fun e w' => e = .returned (.int .i64 1) ∧ Below w.heap.size w w' := by
  go_enter Tryz.func35, Tryz.ntmps35
  go_wp2_with fail
  refine (foundNil_any l w).mono ?_
  rintro e w1 ⟨rfl, B1⟩
  have HB := hid B1
  clear B1
  go_wp2_with fail
  go_ret
  exact ⟨rfl, HB.out⟩
theorem openVraw_any {w : World} {M : Dom} {d n : Nat} (h : DrumAt w M d (DS.new n)) (hn : 2 ≤ n ∧ n ≤ 4096) :
    Calls Tryz.prog 18 #[.pointer (some ⟨d, 0, none⟩)] w fun e w' => e = .returned (.tuple #[.pointer none, .int .i64 11]) ∧ ∃ M', DrumAt w' M' d (DS.new n) ∧ LStep M none' w M' none' w' := by
  have OP := (open_any h hn.1 hn.2 (by show 0 < 300000000; omega)).mono (R' := fun e w' => e = .returned (.tuple #[.pointer none, .int .i64 11]) ∧ ∃ M', DrumAt w' M' d (DS.new n) ∧ LStep M none' w M' none' w') (by
    rintro e w' (⟨hx, -⟩ | ⟨-, M', rfl, D, LT⟩)
    · rw [new_blank] at hx; exact absurd hx (show ¬ ((11 : Int) = 0) by decide)
    · rw [new_blank] at D ⊢
      exact ⟨rfl, M', D, LT⟩)
  clear h
  go_enter Tryz.func18, Tryz.ntmps18
  go_wp2_with fail
  refine OP.mono ?_
  rintro e w1 ⟨rfl, M1, D1, T1⟩
  have HD := hid D1
  have HT := hid T1
  clear D1 T1 OP
  go_wp2_with fail
  go_ret2
  exact ⟨rfl, M1, HD.out, HT.out⟩

/-- a Write on a drum whose next turn breaks -/
theorem write_down0 {L : LS} {s : DS} {P : List (List Ent)} (f : Full L s P) {el : List Ent} (he : PostOk el (L.H s)) (hfit : leavesN el.length ≤ L.leaves) : ∃ L' s', L.write (s.brk 0) el = (4, L', s') ∧ L'.lost = true := by
  have hl := f.g.ok.l
  have hu := f.g.ok.u
  have hr := f.g.r
  have hH : L.H (s.brk 0) = L.H s := rfl
  have hf : (s.brk 0).fuse = some 0 := (by decide : (if (0 : Int) ≤ 0 then some (clip 0) else none) = some 0)
  have hc : (s.brk 0).code = 4 := by
    unfold DS.code DS.goes DS.turn
    rw [hf]
    rfl
  have hn := he.pos
  have h2 : 1 ≤ leavesN el.length := by unfold leavesN; split <;> omega
  have h3 : (postL L.round (L.last + 1) el).length = (leavesN el.length).toNat := by rw [postL_len]; rfl
  unfold LS.write
  rw [hH, if_pos he.may, f.lost, if_neg (by simp), if_neg (by omega)]
  by_cases hg : leavesN el.length > L.leaves - L.used
  · have hs : L.balance (s.brk 0) = L.settle (s.brk 0) := by
      unfold LS.balance
      rw [if_neg]
      unfold LS.settle
      rw [f.lost]
      show ¬ ((s.brk 0).code = 0)
      rw [hc]
      decide
    have hs1 : L.settle (s.brk 0) = (4, L.ends 4, (s.brk 0).settle) := by
      unfold LS.settle
      rw [f.lost]
      show ((s.brk 0).code, L.ends (s.brk 0).code, (s.brk 0).settle) = _
      rw [hc]
    rw [if_pos hg, hs, hs1, if_neg (show ¬ ((4 : Int) = 0) by decide)]
    exact ⟨_, _, rfl, by show (_ || decide ((4 : Int) = 4)) = true; simp⟩
  · rw [if_neg hg]
    obtain ⟨y, r, hy⟩ : ∃ y r, postL L.round (L.last + 1) el = y :: r := by
      generalize postL L.round (L.last + 1) el = q at h3
      match q, h3 with
      | [], h3 => simp at h3; omega
      | y :: r, _ => exact ⟨y, r, rfl⟩
    have hst := (post_stale he (r := L.round) ⟨by omega, by omega⟩ (L.last + 1) y (by rw [hy]; exact List.mem_cons_self)).2
    have hll : L.leafLays el = (2 + L.used, y) :: idxLays (2 + L.used + 1) r := by
      unfold LS.leafLays
      rw [hy]
      rfl
    have hfi : (s.brk 0).fits (2 + L.used) y = true := by
      unfold DS.fits
      exact decide_eq_true ⟨by omega, by show 2 + L.used < (s.n : Int); omega, hst⟩
    have hlc : (s.brk 0).layCode (2 + L.used) y = 4 := by
      unfold DS.layCode
      rw [hfi, hc]
      rfl
    have hls : (s.brk 0).lays (L.leafLays el) = (4, (s.brk 0).lay (2 + L.used) y) := by
      rw [hll]
      show (if (s.brk 0).layCode (2 + L.used) y = 0 then _ else ((s.brk 0).layCode (2 + L.used) y, (s.brk 0).lay (2 + L.used) y)) = _
      rw [hlc, if_neg (by decide)]
    unfold LS.layEnds LS.lay
    rw [hls, if_neg (show ¬ ((4 : Int) = 0) by decide)]
    exact ⟨_, _, rfl, by show (_ || decide ((4 : Int) = 4)) = true; simp⟩

/-- a vault on a drum whose next turn breaks -/
def VBrk (w1 w : World) (d n : Nat) (lv : Int) (v : Nat) (Rn Rk : Rcs) : Prop :=
  ∃ M B C l mb s L P, VSys w M B C d l mb v (s.brk 0) L Rn Rk ∧ Full L s P ∧ L.leaves = lv ∧ s.n = n ∧ s.up.length ≤ 10000000 ∧ L.round ≤ 2000 ∧ L.last ≤ 2000 ∧ RcsOk Rn (homes n lv) ∧ RcsOk Rk (homes n lv) ∧ (2 ≤ homes n lv ∧ homes n lv ≤ 600) ∧ Since w1 w M (fun q => B q ∨ C q)
/-- a vault whose ledger is lost -/
def VDown (w1 w : World) (d n : Nat) (lv : Int) (v : Nat) (Rn Rk : Rcs) : Prop :=
  ∃ M B C l mb s L, VSys w M B C d l mb v s L Rn Rk ∧ L.lost = true ∧ L.Lv s ∧ L.H s = homes n lv ∧ RcsOk Rn (homes n lv) ∧ Since w1 w M (fun q => B q ∨ C q)
section
variable {w1 w : World} {d n : Nat} {lv : Int} {N v : Nat} {Rn Rk : Rcs}
theorem VRun.brk {ms : List (Nat × DT)} (h : VRun w1 w d n lv N v Rn Rk ms) (hN : N ≤ 1000) : Calls Tryz.prog 37 #[.pointer (some ⟨d, 0, none⟩), .int .i64 0] w fun e w' => e = .returned (.tuple #[]) ∧ VBrk w1 w' d n lv v Rn Rk := by
  obtain ⟨M, B, C, l, mb, s, L, V, h1, h2, h3⟩ := h.out
  refine (break_any h1.vs.sys.drum 0).mono ?_
  rintro e w' ⟨rfl, M', D, S⟩
  obtain ⟨P, f⟩ := h1.live.full
  have k := LStep.of_step (B := B) S
  have hu := h1.live.up
  have hr := h1.live.round
  have hla := h1.live.last
  exact ⟨rfl, M', B, C, l, mb, s, L, P, h1.vs.lstep (h1.vs.sys.step D S) k, f, h1.live.leaves, h1.live.n, by omega, by omega, by omega, h1.okn, h1.okk, h1.hH, h2.lstep (k.vault (C := C))⟩
theorem VBrk.below {w' : World} (h : VBrk w1 w d n lv v Rn Rk) (k : Below w.heap.size w w') : VBrk w1 w' d n lv v Rn Rk := by
  obtain ⟨M, B, C, l, mb, s, L, P, h1, f, hl, hsn, hup, hrd, hla, ok1, ok2, hH, h2⟩ := h
  exact ⟨M, B, C, l, mb, s, L, P, h1.below k, f, hl, hsn, hup, hrd, hla, ok1, ok2, hH, h2.to k⟩
theorem VBrk.put (h : VBrk w1 w d n lv v Rn Rk) (id : Int) (hid' : -9223372036854775808 ≤ id ∧ id ≤ 9223372036854775807) (a : Option Addr) (len cap : Nat) (bs : List Int) (hr : Row w a (B8 bs)) (hbl : bs.length = len) (hlen : len ≤ 1000000) (hn : a = none → len = 0) (hby : IsBytes bs) :
    Calls Tryz.prog 15 #[.pointer (some ⟨v, 0, none⟩), .int .i64 id, .slice a len cap] w fun e w' => e = .returned (.int .i64 (putC Rn (homes n lv) false id len)) ∧ VBrk w1 w' d n lv v (Rn.putted (homes n lv) false id bs) Rk := by
  obtain ⟨M, B, C, l, mb, s, L, P, h1, f, hl, hsn, hup, hrd, hla, ok1, ok2, hH, h2⟩ := h
  have hLH : L.H (s.brk 0) = homes n lv := by unfold LS.H homes; rw [hl]; show (((s.n : Nat) : Int) - _).toNat = _; rw [hsn]
  have lv' : L.Lv (s.brk 0) := ⟨f.g.ok.n1, f.g.ok.l⟩
  refine (putV_any h1 lv' hLH ok1 id hid' a len cap bs hr hbl hlen hn hby).mono ?_
  rintro e w' ⟨e1, e2, e3⟩
  rw [f.lost] at e1 e2
  exact ⟨by rw [e1, hbl], M, B, C, l, mb, s, L, P, e2, f, hl, hsn, hup, hrd, hla, putted_ok ok1 (by omega) (by omega) hby, ok2, hH, h2.lstep (e3.vault (B := B))⟩
theorem VBrk.keep (h : VBrk w1 w d n lv v Rn Rk) (hne : turnedL Rk Rn ≠ []) (hfit : leavesN (turnedL Rk Rn).length ≤ lv) :
    Calls Tryz.prog 17 #[.pointer (some ⟨v, 0, none⟩)] w fun e w' => e = .returned (.int .i64 4) ∧ VDown w1 w' d n lv v Rn Rk := by
  obtain ⟨M, B, C, l, mb, s, L, P, h1, f, hl, hsn, hup, hrd, hla, ok1, ok2, hH, h2⟩ := h
  have hLH : L.H s = homes n lv := by unfold LS.H homes; rw [hl, hsn]
  have okb : L.Ok (s.brk 0) := f.g.ok.to rfl rfl f.g.ok.r f.g.ok.u f.g.ok.k (.inl rfl)
  have he : PostOk (turnedL Rk Rn) (L.H s) := ⟨by rw [hLH]; exact turned_may ok1 hH.1 hne, by omega, by have := turned_le (K := Rk) ok1 hH.1; omega⟩
  obtain ⟨L', s', e1, e2⟩ := write_down0 f he (by rw [hl]; exact hfit)
  have kp := LS.write_keep (el := turnedL Rk Rn) okb (turned_bytes ok1) (by omega) (by omega)
  refine (keepG h1 f.lost okb (by omega) (by show s.up.length < _; omega) hH ok1 ok2).mono ?_
  rw [e1] at kp ⊢
  rintro e w' (⟨h', -⟩ | ⟨-, M', B', C', mb', T, rfl, ⟨h', -⟩ | ⟨h', -⟩ | ⟨-, VS⟩⟩)
  · exact absurd h' hne
  · exact absurd h' (show ¬ ((4 : Int) = 0) by decide)
  · exact absurd h' (show ¬ ((4 : Int) = 5) by decide)
  · exact ⟨rfl, M', B', C', l, mb', s', L', VS, e2, kp.ok.lv, by
      have h4 : s'.n = s.n := kp.n
      have h5 : L'.leaves = L.leaves := kp.leaves
      unfold LS.H homes; rw [h4, h5, hl, hsn], ok1, h2.lstep T⟩
theorem VDown.put (h : VDown w1 w d n lv v Rn Rk) (id : Int) (hid' : 1 ≤ id ∧ id ≤ 40) (a : Option Addr) (len cap : Nat) (bs : List Int) (hr : Row w a (B8 bs)) (hbl : bs.length = len) (hlen : len ≤ 60000) (hn : a = none → len = 0) (hby : IsBytes bs) :
    Calls Tryz.prog 15 #[.pointer (some ⟨v, 0, none⟩), .int .i64 id, .slice a len cap] w fun e w' => e = .returned (.int .i64 4) ∧ VDown w1 w' d n lv v Rn Rk := by
  obtain ⟨M, B, C, l, mb, s, L, h1, hlo, hlv, hLH, ok1, h2⟩ := h
  refine (putV_any h1 hlv hLH ok1 id (by omega) a len cap bs hr hbl (by omega) hn hby).mono ?_
  rintro e w' ⟨e1, e2, e3⟩
  have hc : putC Rn (homes n lv) true id bs.length = 4 := by unfold putC; rw [if_neg (by omega), if_pos rfl]
  have hp : Rn.putted (homes n lv) true id bs = Rn := by unfold Rcs.putted; rw [hc, if_neg (by decide)]
  rw [hlo] at e1 e2
  rw [hc] at e1
  rw [hp] at e2
  exact ⟨e1, M, B, C, l, mb, s, L, e2, hlo, hlv, hLH, ok1, h2.lstep (e3.vault (B := B))⟩
theorem VDown.lost (h : VDown w1 w d n lv v Rn Rk) : Calls Tryz.prog 33 #[.pointer (some ⟨v, 0, none⟩)] w fun e w' => e = .returned (.bool true) ∧ w = w' := by
  obtain ⟨M, B, C, l, mb, s, L, h1, hlo, hlv, hLH, ok1, h2⟩ := h
  have := lostV_any h1
  rwa [hlo] at this
theorem VDown.settle (h : VDown w1 w d n lv v Rn Rk) : Calls Tryz.prog 31 #[.pointer (some ⟨v, 0, none⟩)] w fun e w' => e = .returned (.int .i64 4) ∧ Below w1.heap.size w1 w' := by
  obtain ⟨M, B, C, l, mb, s, L, h1, hlo, hlv, hLH, ok1, h2⟩ := h
  refine (settleV_any h1 (Q := fun c w' => c = 4 ∧ Below w1.heap.size w1 w') ((lsettle_any h1.sys).mono ?_)).mono ?_
  · rintro e w' ⟨rfl, M', B', mb', SY, LT⟩
    have e1 : L.settle s = (4, L, s) := by unfold LS.settle; rw [hlo]; rfl
    rw [e1]
    exact ⟨4, rfl, rfl, (h2.lstep (LT.vault (C := C))).below⟩
  · rintro e w' ⟨c, rfl, rfl, k⟩
    exact ⟨rfl, k⟩
theorem VRun.get {ms : List (Nat × DT)} (h : VRun w1 w d n lv N v Rn Rk ms) (id : Int) (hid' : -9223372036854775808 ≤ id ∧ id ≤ 9223372036854775807) :
    Calls Tryz.prog 25 #[.pointer (some ⟨v, 0, none⟩), .int .i64 id] w fun e w' => ∃ u, e = .returned (.tuple #[u, .bool (Rn id).isSome]) ∧ VRun w1 w' d n lv N v Rn Rk ms := by
  obtain ⟨M, B, C, l, mb, s, L, V, h1, h2, h3⟩ := h.out
  refine (getV_any h1.vs h1.okn id hid').mono ?_
  rintro e w' ⟨u, e1, -, k⟩
  exact ⟨u, e1, h.below k⟩
theorem VRun.free {ms : List (Nat × DT)} (h : VRun w1 w d n lv N v Rn Rk ms) :
    Calls Tryz.prog 26 #[.pointer (some ⟨v, 0, none⟩)] w fun e w' => e = .returned (.int .i64 (((homes n lv : Nat) : Int) - (Rn.used : Nat))) ∧ VRun w1 w' d n lv N v Rn Rk ms := by
  obtain ⟨M, B, C, l, mb, s, L, V, h1, h2, h3⟩ := h.out
  refine (freeV_any h1.vs h1.live.ok.lv h1.live.H h1.okn).mono ?_
  rintro e w' ⟨e1, k⟩
  exact ⟨e1, h.below k⟩
end

end Go.Proofs.YtleoelhhndeheaaGreat
