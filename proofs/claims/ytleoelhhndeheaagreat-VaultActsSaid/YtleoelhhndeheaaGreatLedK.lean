/- package ledger: goHome -/
import Derived.Test.YtleoelhhndeheaaGreatLedJ
import Derived.Test.YtleoelhhndeheaaGreatKeysC
import Derived.Test.YtleoelhhndeheaaGreatDrumG
open Go Go.RowKit
namespace Go.Proofs.YtleoelhhndeheaaGreat

theorem zP (w : World) : (zeroValue 27).run Tryz.prog w = .ok (.slice none 0 0) w := by kernel_rfl
def homeLay (L : LS) (k : Int) : Int × List Int := (2 + L.leaves + k, (L.taken k).getD [])
theorem homeLays_eq (L : LS) (H : Nat) : L.homeLays H = (homeKeys L.taken H).map (homeLay L) := rfl
theorem homeLays_take (L : LS) (H k : Nat) {x : Int} (h : (homeKeys L.taken H)[k]? = some x) : (L.homeLays H).take (k + 1) = (L.homeLays H).take k ++ [homeLay L x] := by
  rw [homeLays_eq, ← List.map_take, ← List.map_take, List.take_add_one, h, List.map_append]
  rfl
theorem lays_take_stop (s : DS) (l : List (Int × List Int)) (k : Nat) (h : (s.lays (l.take k)).1 ≠ 0) : s.lays l = s.lays (l.take k) := by
  have := DS.lays_stop s (l.take k) (l.drop k) h
  rwa [List.take_append_drop] at this
theorem goHome_stop {L : LS} {s : DS} {H : Nat} (hH : L.H s = H) (h : (s.lays (L.homeLays H)).1 ≠ 0) : L.goHome s = ((s.lays (L.homeLays H)).1, L, (s.lays (L.homeLays H)).2) := by
  unfold LS.goHome; rw [hH, if_neg h]
theorem goHome_unset {L : LS} {s : DS} {H : Nat} (hH : L.H s = H) (h : (s.lays (L.homeLays H)).1 = 0) (h2 : (s.lays (L.homeLays H)).2.code ≠ 0) : L.goHome s = ((s.lays (L.homeLays H)).2.code, L, (s.lays (L.homeLays H)).2.settle) := by
  unfold LS.goHome; rw [hH, if_pos h, if_neg h2]
theorem goHome_unturned {L : LS} {s : DS} {H : Nat} (hH : L.H s = H) (h : (s.lays (L.homeLays H)).1 = 0) (h2 : (s.lays (L.homeLays H)).2.code = 0) (h3 : ((s.lays (L.homeLays H)).2.settle.turned (L.round + 1) L.leaves).1 ≠ 0) :
    L.goHome s = (((s.lays (L.homeLays H)).2.settle.turned (L.round + 1) L.leaves).1, { L with round := L.round + 1 }, ((s.lays (L.homeLays H)).2.settle.turned (L.round + 1) L.leaves).2) := by
  unfold LS.goHome; rw [hH, if_pos h, if_pos h2, if_neg h3]
theorem goHome_went {L : LS} {s : DS} {H : Nat} (hH : L.H s = H) (h : (s.lays (L.homeLays H)).1 = 0) (h2 : (s.lays (L.homeLays H)).2.code = 0) (h3 : ((s.lays (L.homeLays H)).2.settle.turned (L.round + 1) L.leaves).1 = 0) :
    L.goHome s = (0, { L with round := L.round + 1, used := 0, last := 0, taken := fun _ => none }, ((s.lays (L.homeLays H)).2.settle.turned (L.round + 1) L.leaves).2) := by
  unfold LS.goHome; rw [hH, if_pos h, if_pos h2, if_pos h3]
/-- a new map -/
theorem Sys.remap {w w' : World} {M : Dom} {B : Nat → Prop} {d l mb g : Nat} {s : DS} {L : LS} (h : Sys w M B d l mb s L) (hg : w.heap.size ≤ g ∧ g < w'.heap.size) (kx : Ext (· = l) w w') (hm : w'.heap[g]? = some (.map #[] 0)) {L' : LS}
    (ho : w'.heap[l]? = some (.cells (ledCells d g L') 122 (0, 0))) (ht : L'.taken = fun _ => none) :
    Sys w' (M.addX (· = g)) (fun q => B q ∨ q = g) d l g s L' ∧ LStep M B w (M.addX (· = g)) (fun q => B q ∨ q = g) w' := by
  have hX := h.led.bx _ h.led.bl
  have hd0 : DrumAt w' M d s := h.drum.other kx (fun q hq => by subst hq; exact hX.1) (fun q hq => by subst hq; exact hX.2)
  have hF : ∀ q, ¬ ((M.addX (· = g)) : Dom).M q ∨ True := fun _ => .inr trivial
  obtain ⟨p, e, hp⟩ := h.drum
  have hT' : ∀ v zs, Trk w M v zs → Trk w' (M.addX (· = g)) v zs := fun v zs hv => hv.step kx (fun q hq => by subst hq; exact .inr hX.1) (fun q hq => by
    rcases hq with hq | hq | hq
    · exact .inl (.inl hq)
    · exact .inl (.inr hq)
    · subst hq; exact .inr hg.1)
  have hd : DrumAt w' (M.addX (· = g)) d s := by
    refine DrumAt.otherG ⟨p, e, hp⟩ kx (fun q hq => by subst hq; exact hX.1) (fun q hq => by subst hq; exact hX.2) (fun q hq => by subst hq; exact hg)
  refine ⟨⟨hd, ho, ⟨⟨fun _ => none, ?_, fun x => .inl ⟨rfl, by rw [ht]⟩⟩, fun x hx => by rw [ht] at hx; cases hx⟩, .inl h.led.bl, .inr rfl, fun q hq => ?_, fun q hq => ?_⟩, ?_⟩
  · have : IMap w' g 0 (fun _ => none) := ⟨.map [], ⟨#[], 0, hm, ⟨by simp, Go.MapKept.stamped_empty 0, by simp⟩, Nat.le_refl _, rfl⟩, fun x => rfl, fun x v h => by cases h⟩
    exact this.small (fun x hx => by cases hx)
  · rcases hq with hq | hq
    · exact ⟨.inl (h.led.bx q hq).1, (h.led.bx q hq).2⟩
    · subst hq
      exact ⟨.inr rfl, fun hm => by have := h.drum.ml _ hm; omega⟩
  · rcases hq with hq | hq
    · exact Nat.lt_of_lt_of_le (h.led.bs q hq) kx.size
    · subst hq; exact hg.2
  · exact ⟨kx.mono (fun q _ hq => .inr (by subst hq; exact h.led.bl)), fun _ h => .inl h, fun q hq => hq.elim .inl (fun e => .inr (by subst e; exact hg.1)), fun q hq => hq.elim .inl (fun e => .inr (by subst e; exact hg.1)), fun q hq => .inl hq⟩

/-- what a ledger's call leaves: the drum, the ledger -/
def Went (w : World) (M : Dom) (B : Nat → Prop) (d l : Nat) (r : Int × LS × DS) (w' : World) : Prop := ∃ M' B' mb', Sys w' M' B' d l mb' r.2.2 r.2.1 ∧ LStep M B w M' B' w'

set_option maxRecDepth 100000 in
set_option maxHeartbeats 8000000 in
theorem goHome_any {w : World} {M : Dom} {B : Nat → Prop} {d l mb : Nat} {s : DS} {L : LS} (h : Sys w M B d l mb s L) (ok : L.Ok s) (hu : s.up.length < 400000000) :
    Calls Tryz.prog 75 #[.pointer (some ⟨l, 0, none⟩)] w fun e w' => e = .returned (.int .i64 (L.goHome s).1) ∧ Went w M B d l (L.goHome s) w' := by
  have HS := hid h
  have OK := hid ok
  obtain ⟨H, hH, hH2⟩ : ∃ H : Nat, L.H s = H ∧ (H : Int) + (2 + L.leaves) = s.n := ⟨_, rfl, by have := ok.l; unfold LS.H; omega⟩
  have HHH := hid hH
  have okr := ok.r
  have okl := ok.l
  have okn := ok.n1
  obtain ⟨c0, c1, c2, c3, c4, c5, c6⟩ := h.led.cells
  obtain ⟨V, hV1, hV2⟩ := h.led.tkn.out
  have hVs : ∀ x, (V x).isSome = (L.taken x).isSome := fun x => by
    rcases hV2 x with ⟨e1, e2⟩ | ⟨v, zs, e1, e2, -⟩ <;> rw [e1, e2] <;> rfl
  have SO := sorted_any hV1 hVs H (fun x hx => by have := ok.t x hx; omega)
  have hKL := homeKeys_length L.taken H
  obtain ⟨ks, hks⟩ : ∃ ks, homeKeys L.taken H = ks := ⟨_, rfl⟩
  rw [hks] at SO hKL
  have HKS := hid hks
  obtain ⟨HLs, hHL⟩ : ∃ HLs, L.homeLays H = HLs := ⟨_, rfl⟩
  have HHL := hid hHL
  have HLT := hid (show ∀ k x, ks[k]? = some x → HLs.take (k + 1) = HLs.take k ++ [homeLay L x] from fun k x hx => by rw [← hHL]; exact homeLays_take L H k (by rw [hks]; exact hx))
  have HLL := hid (show HLs.length = ks.length by rw [← hHL, homeLays_eq, List.length_map, hks])
  obtain ⟨nk, hnk⟩ : ∃ nk, ks.length = nk := ⟨_, rfl⟩
  rw [hnk] at SO hKL
  have HNK := hid hnk
  have KEY := hid (show ∀ x ∈ ks, (0 ≤ x ∧ x < H) ∧ (L.taken x).isSome from fun x hx => homeKeys_mem.1 (by rw [hks]; exact hx))
  have HLW := hid (lt_of_cell c0)
  have hMl : ¬ M l := (h.led.bx _ h.led.bl).2
  clear h hks hHL hnk hV1 hV2 hVs ok hH
  go_enter Tryz.func75, Tryz.ntmps75
  go_wp2_with fail
  refine (keys_any mb w).mono ?_
  rintro e w1 ⟨rfl, rfl⟩
  go_wp2_with fail
  refine SO.mono ?_
  rintro e w2 ⟨kv, rfl, ko, B2⟩
  obtain ⟨ka, kc, rfl, -, -, -, kr, kb, kn⟩ := row_of_owns ko
  have S2 := hid (HS.out.below B2)
  have KR := hid kr
  have hixk := fun k (hk : k < nk) => idx_at1 (P := Tryz.prog) (T := 33) Tryz.underlying33 szI (cap := kc) (fun h0 => kr.nn (by rw [I8_length, HNK.out]; exact h0)) hk
  have KM := hid (show 0 < nk → ¬ M (sB ka) from fun h0 hm => by have := HS.out.drum.ml _ hm; have := (kb h0).1; omega)
  have L2 := hid (show LStep M B w M B w2 from LStep.of_below B2)
  clear SO ko kr kb kn B2
  go_wp2_with fail
  go_loopw [15] (fun i wr => ∃ (k : Nat) (M1 : Dom), i = .int .i64 k ∧ k ≤ nk ∧ Hid ((s.lays (HLs.take k)).1 = 0) ∧ Hid (Sys wr M1 B d l mb (s.lays (HLs.take k)).2 L) ∧ Hid (LStep M B w M1 B wr) ∧ Hid (Row wr ka (I8 ks)) ∧ Hid (0 < nk → ¬ M1 (sB ka))) (fun i _ => nk - (Go.RowKit.intOf i).toNat)
  case atStart => exact ⟨0, M, rfl, Nat.zero_le _, hid rfl, S2, L2, KR, KM⟩
  case round =>
    obtain ⟨k, M1, rfl, hk, HC, SK, LK, RK, MK⟩ := hrel
    by_cases hlt : k < nk
    · have hix := hixk k hlt
      obtain ⟨x, hx⟩ : ∃ x, ks[k]? = some x := ⟨_, List.getElem?_eq_getElem (by rw [HNK.out]; exact hlt)⟩
      obtain ⟨⟨hx1, hx2⟩, hx3⟩ := KEY.out x (List.mem_of_getElem? hx)
      have ck : wr.cell? ⟨sB ka, sO ka + k, none⟩ = some (.int .i64 x) := by
        have := RK.out.num (i := k) (by rw [HNK.out]; exact hlt)
        rw [hx] at this
        exact this
      obtain ⟨d0, -, -, -, -, d5, -⟩ := SK.out.led.cells
      obtain ⟨V, hV1, hV2⟩ := SK.out.led.tkn.out
      obtain ⟨v, zs, e1, e2, htr⟩ : ∃ v zs, V x = some v ∧ L.taken x = some zs ∧ Trk wr M1 v zs := by
        rcases hV2 x with ⟨-, e2⟩ | h
        · rw [e2] at hx3; cases hx3
        · exact h
      obtain ⟨ta, tc, rfl, tr, t96, tM, tby, tcc⟩ := htr
      have lk := fun (W : World) (im : IMap W mb 4096 V) => im.look Tryz.underlying65 (zP W) (x := x) (by omega)
      rw [e1] at lk
      simp only [Option.getD_some] at lk
      have LOOK := hid lk
      have HIM := hid hV1
      have HA := fun (W : World) (Bw : Below wr.heap.size wr W) => homeAt_any (SK.out.below Bw) ⟨by rw [(DS.lays_n s (HLs.take k)).1]; exact okn, by rw [(DS.lays_n s (HLs.take k)).1]; exact okl⟩ x (by omega)
      have hup : (s.lays (HLs.take k)).2.up.length < 1000000000 := by
        have := (DS.lays_n s (HLs.take k)).2
        rw [List.length_take] at this
        omega
      have LA := fun (W : World) (Bw : Below wr.heap.size wr W) => lay_any (SK.out.below Bw).drum (2 + L.leaves + x) (some ta) 96 tc zs (tr.below Bw (Nat.le_refl _)) t96 tby (fun h => by cases h) (fun _ hm => tM (.inl hm)) hup
      obtain ⟨cd, hcd⟩ : ∃ cd, (s.lays (HLs.take k)).2.layCode (2 + L.leaves + x) zs = cd := ⟨_, rfl⟩
      rw [hcd] at LA
      have HSN := hid (show s.lays (HLs.take (k + 1)) = (cd, (s.lays (HLs.take k)).2.lay (2 + L.leaves + x) zs) by
        have hl : homeLay L x = (2 + L.leaves + x, zs) := by unfold homeLay; rw [e2]; rfl
        rw [HLT.out k x hx, DS.lays_snoc _ _ _ HC.out, hl]
        show ((s.lays (HLs.take k)).2.layCode (2 + L.leaves + x) zs, _) = _
        rw [hcd])
      have lw := lt_of_cell d0
      have hmb := SK.out.led.bs _ SK.out.led.bm
      have hM1l : ¬ M1 l := (SK.out.led.bx _ SK.out.led.bl).2
      have hM1m : ¬ M1 mb := (SK.out.led.bx _ SK.out.led.bm).2
      have SB : ∀ W, Below wr.heap.size wr W → W.cell? ⟨l, 0, none⟩ = some (.pointer (some ⟨d, 0, none⟩)) ∧ W.cell? ⟨l, 5, none⟩ = some (.map (some mb)) ∧ (Instr.lookup 65 (.map (some mb)) (.int .i64 x) false).run Tryz.prog W = .ok (.slice (some ta) 96 tc) W := fun W h => ⟨Below.cellAt h lw d0, Below.cellAt h lw d5, LOOK.out W (HIM.out.below h (Nat.le_refl _))⟩
      clear hx hx3 hV1 hV2 e1 e2 tr t96 tM tby hcd lk
      go_wp2_with fail
      refine wp_region_held_drew (S := fun w' => w'.cell? ⟨l, 0, none⟩ = some (.pointer (some ⟨d, 0, none⟩)) ∧ w'.cell? ⟨l, 5, none⟩ = some (.map (some mb)) ∧ (Instr.lookup 65 (.map (some mb)) (.int .i64 x) false).run Tryz.prog w' = .ok (.slice (some ta) 96 tc) w') (by kernel_rfl) (SB _ ((Below.refl wr.heap.size wr).drew)) (fun hHeld => ?_)
      refine wpAnyH_take (i := 0) (v := ?v1) (by simp only [List.getElem?_toArray, List.getElem?_cons_zero]; rfl) (by kernel_rfl) (by kernel_rfl) (by kernel_rfl) (by exact fun _ _ _ h => h) (Or.inl ⟨by rfl, ?h1⟩) (by assumption) ?r1
      case h1 => (intro w hSw; (try dsimp only at hSw); go_simp; try with_reducible rfl)
      try simp only [Act.put, List.setIfInBounds_toArray, List.set_cons_zero, List.set_cons_succ]
      refine wpAnyH_take (i := 1) (v := ?v2) (by simp only [List.getElem?_toArray, List.getElem?_cons_zero, List.getElem?_cons_succ]; rfl) (by kernel_rfl) (by kernel_rfl) (by kernel_rfl) (by exact fun _ _ _ h => h) (Or.inl ⟨by rfl, ?h2⟩) (by assumption) ?r2
      case h2 => (intro w hSw; (try dsimp only at hSw); go_simp; try with_reducible rfl)
      try simp only [Act.put, List.setIfInBounds_toArray, List.set_cons_zero, List.set_cons_succ]
      refine wpAnyH_take (i := 2) (v := ?v3) (by simp only [List.getElem?_toArray, List.getElem?_cons_zero, List.getElem?_cons_succ]; rfl) (by kernel_rfl) (by kernel_rfl) (by kernel_rfl) (by exact fun _ _ _ h => h) (Or.inl ⟨by rfl, ?h3⟩) (by assumption) ?r3
      case h3 => (intro w hSw; (try dsimp only at hSw); go_simp; try with_reducible rfl)
      try simp only [Act.put, List.setIfInBounds_toArray, List.set_cons_zero, List.set_cons_succ]
      refine wpAnyH_take (i := 3) (v := ?v4) (by simp only [List.getElem?_toArray, List.getElem?_cons_zero, List.getElem?_cons_succ]; rfl) (by kernel_rfl) (by kernel_rfl) (by kernel_rfl) (by exact fun _ _ _ h => h) (Or.inl ⟨by rfl, ?h4⟩) (by assumption) ?r4
      case h4 => (intro w hSw; (try dsimp only at hSw); go_simp; try with_reducible rfl)
      try simp only [Act.put, List.setIfInBounds_toArray, List.set_cons_zero, List.set_cons_succ]
      refine wpAnyH_take (i := 4) (v := ?v5) (by simp only [List.getElem?_toArray, List.getElem?_cons_zero, List.getElem?_cons_succ]; rfl) (by kernel_rfl) (by kernel_rfl) (by kernel_rfl) (by exact fun _ _ _ h => h) (Or.inl ⟨by rfl, ?h5⟩) (by assumption) ?r5
      case h5 => (intro w hSw; (try dsimp only at hSw); go_simp; try with_reducible rfl)
      try simp only [Act.put, List.setIfInBounds_toArray, List.set_cons_zero, List.set_cons_succ]
      refine wpAnyH_take (i := 5) (v := ?v6) (by simp only [List.getElem?_toArray, List.getElem?_cons_zero, List.getElem?_cons_succ]; rfl) (by kernel_rfl) (by kernel_rfl) (by kernel_rfl) (by exact fun _ _ _ h => h) (Or.inl ⟨by rfl, ?h6⟩) (by assumption) ?r6
      case h6 => (intro w hSw; (try dsimp only at hSw); go_simp; try with_reducible rfl)
      try simp only [Act.put, List.setIfInBounds_toArray, List.set_cons_zero, List.set_cons_succ]
      refine wpAnyH_take (i := 7) (v := ?v7) (by simp only [List.getElem?_toArray, List.getElem?_cons_zero, List.getElem?_cons_succ]; rfl) (by kernel_rfl) (by kernel_rfl) (by kernel_rfl) (by exact fun _ _ _ h => h) (Or.inl ⟨by rfl, ?h7⟩) (by assumption) ?r7
      case h7 => (intro w hSw; (try dsimp only at hSw); go_simp; try with_reducible rfl)
      try simp only [Act.put, List.setIfInBounds_toArray, List.set_cons_zero, List.set_cons_succ]
      refine wpAnyH_take (i := 8) (v := ?v8) (by simp only [List.getElem?_toArray, List.getElem?_cons_zero, List.getElem?_cons_succ]; rfl) (by kernel_rfl) (by kernel_rfl) (by kernel_rfl) (by exact fun _ _ _ h => h) (Or.inl ⟨by rfl, ?h8⟩) (by assumption) ?r8
      case h8 => (intro w hSw; (try dsimp only at hSw); go_simp; try with_reducible rfl)
      try simp only [Act.put, List.setIfInBounds_toArray, List.set_cons_zero, List.set_cons_succ]
      refine wpAnyH_take (i := 9) (v := ?v9) (by simp only [List.getElem?_toArray, List.getElem?_cons_zero, List.getElem?_cons_succ]; rfl) (by kernel_rfl) (by kernel_rfl) (by kernel_rfl) (by exact fun _ _ _ h => h) (Or.inl ⟨by rfl, ?h9⟩) (by assumption) ?r9
      case h9 => (intro w hSw; (try dsimp only at hSw); go_simp; try with_reducible rfl)
      try simp only [Act.put, List.setIfInBounds_toArray, List.set_cons_zero, List.set_cons_succ]
      refine wpAnyH_take (i := 10) (v := ?v10) (by simp only [List.getElem?_toArray, List.getElem?_cons_zero, List.getElem?_cons_succ]; rfl) (by kernel_rfl) (by kernel_rfl) (by kernel_rfl) (by exact fun _ _ _ h => h) (Or.inl ⟨by rfl, ?h10⟩) (by assumption) ?r10
      case h10 => (intro w hSw; (try dsimp only at hSw); go_simp; try with_reducible rfl)
      try simp only [Act.put, List.setIfInBounds_toArray, List.set_cons_zero, List.set_cons_succ]
      refine wpAnyH_take (i := 11) (v := ?v11) (by simp only [List.getElem?_toArray, List.getElem?_cons_zero, List.getElem?_cons_succ]; rfl) (by kernel_rfl) (by kernel_rfl) (by kernel_rfl) (by exact fun _ _ _ h => h) (Or.inl ⟨by rfl, ?h11⟩) (by assumption) ?r11
      case h11 => (intro w hSw; (try dsimp only at hSw); go_simp; try with_reducible rfl)
      try simp only [Act.put, List.setIfInBounds_toArray, List.set_cons_zero, List.set_cons_succ]
      refine wpAnyH_take (i := 12) (v := ?v12) (by simp only [List.getElem?_toArray, List.getElem?_cons_zero, List.getElem?_cons_succ]; rfl) (by kernel_rfl) (by kernel_rfl) (by kernel_rfl) (by exact fun _ _ _ h => h) (Or.inl ⟨by rfl, ?h12⟩) (by assumption) ?r12
      case h12 => (intro w hSw; (try dsimp only at hSw); go_simp; try with_reducible rfl)
      try simp only [Act.put, List.setIfInBounds_toArray, List.set_cons_zero, List.set_cons_succ]
      refine wpAnyH_ready (rs := [6]) (by kernel_rfl) (by simp) ?_
      refine (AllReadyH.cons (by simp only [List.getElem?_toArray, List.getElem?_cons_zero, List.getElem?_cons_succ]; rfl) (fun K hK => ?_) AllReadyH.nil)
      go_simp
      go_at_call 87
      refine (HA _ ((Below.refl wr.heap.size wr).drew)).mono ?_
      rintro e wq13 ⟨rfl, rfl⟩
      refine hK.out _ _ (SB _ (Below.refl wr.heap.size wr).drew) (fun hH14 => ?_)
      clear hK
      try simp only [Act.put, List.setIfInBounds_toArray, List.set_cons_zero, List.set_cons_succ]
      refine wpAnyH_ready (rs := [13]) (by kernel_rfl) (by simp) ?_
      refine (AllReadyH.cons (by simp only [List.getElem?_toArray, List.getElem?_cons_zero, List.getElem?_cons_succ]; rfl) (fun K hK => ?_) AllReadyH.nil)
      go_simp
      go_at_call 21
      refine (LA _ ((Below.refl wr.heap.size wr).drew)).mono ?_
      rintro e w8 ⟨rfl, M8, D8, S8⟩
      have Y8 := hid ((SK.out.below ((Below.refl wr.heap.size wr).drew)).step D8 S8)
      have Z8 := hid ((LK.out.trans (LStep.of_below (M := M1) (B := B) ((Below.refl wr.heap.size wr).drew))).trans (LStep.of_step S8))
      have R8' := hid ((RK.out.below ((Below.refl wr.heap.size wr).drew) (Nat.le_refl _)).ext S8.ext (fun hl => MK.out (by rw [I8_length, HNK.out] at hl; exact hl)))
      have K8 := hid (show 0 < nk → ¬ M8 (sB ka) from fun h0 hm => (S8.new _ hm).elim (MK.out h0) (fun e => by have h7 := RK.out.lt (by rw [I8_length, HNK.out]; exact h0); have h8 := ((Below.refl wr.heap.size wr).drew).size; omega))
      refine hK.out _ _ ⟨S8.ext.cell hM1l (Below.cellAt ((Below.refl wr.heap.size wr).drew) lw d0), S8.ext.cell hM1l (Below.cellAt ((Below.refl wr.heap.size wr).drew) lw d5), LOOK.out _ ((HIM.out.below ((Below.refl wr.heap.size wr).drew) (Nat.le_refl _)).ext S8.ext hM1m)⟩ (fun hH15 => ?_)
      clear hK
      try simp only [Act.put, List.setIfInBounds_toArray, List.set_cons_zero, List.set_cons_succ]
      refine wpAnyH_take (i := 14) (v := ?v16) (by simp only [List.getElem?_toArray, List.getElem?_cons_zero, List.getElem?_cons_succ]; rfl) (by kernel_rfl) (by kernel_rfl) (by kernel_rfl) (by exact fun _ _ _ h => h) (Or.inl ⟨by rfl, ?h16⟩) (by assumption) ?r16
      case h16 => (intro w hSw; (try dsimp only at hSw); go_simp; try with_reducible rfl)
      try simp only [Act.put, List.setIfInBounds_toArray, List.set_cons_zero, List.set_cons_succ]
      refine wpAnyH_done (by kernel_rfl) ?_ _
      clear D8 S8 LA HA
      by_cases hc : cd = 0
      · subst hc
        go_wp2_with fail
        go_roundw
        case measure => simp [Go.RowKit.intOf]; omega
        case rel => exact ⟨k + 1, M8, by go_num, by omega, hid (by rw [HSN.out]), by rw [HSN.out]; exact Y8, Z8, R8', K8⟩
      · have hc1 : (cd != 0) = true := by simpa using hc
        have HST := hid (lays_take_stop s HLs (k + 1) (by rw [HSN.out]; exact hc))
        have HG := hid (goHome_stop (L := L) (s := s) HHH.out (by rw [HHL.out, HST.out, HSN.out]; exact hc))
        go_wp2_with fail
        go_ret
        exact ⟨by rw [HG.out, HHL.out, HST.out, HSN.out]; rfl, M8, B, mb, by rw [HG.out, HHL.out, HST.out, HSN.out]; exact Y8.out, Z8.out⟩
    · obtain rfl : nk = k := by omega
      have HF := hid (show HLs.take nk = HLs by rw [List.take_of_length_le (by rw [HLL.out, HNK.out]; exact Nat.le_refl _)])
      rw [HF.out] at SK HC
      have upL := (DS.lays_n s HLs).2
      have nL := (DS.lays_n s HLs).1
      rw [HLL.out, HNK.out] at upL
      have SE := settle_any SK.out.drum
      obtain ⟨cd, hcd⟩ : ∃ cd, (s.lays HLs).2.code = cd := ⟨_, rfl⟩
      rw [hcd] at SE
      have HCD := hid hcd
      obtain ⟨d0, -, -, -, -, -, -⟩ := SK.out.led.cells
      have NL := hid nL
      clear hcd hixk nL
      by_cases hc : cd = 0
      · subst hc
        go_wp2_with fail
        refine SE.mono ?_
        rintro e w5 ⟨rfl, M5, D5, S5⟩
        have Y5 := hid (SK.out.step D5 S5)
        have Z5 := hid (LK.out.trans (LStep.of_step S5))
        have f1 := fun o => blk_free (o := o) Y5.out.led.obj
        have Y6 := hid (Y5.out.put (o := 1) (v := .int .i64 (L.round + 1)) (L' := { L with round := L.round + 1 }) rfl rfl)
        have Z6 := hid (Z5.out.trans (LStep.put (M := M5) Y5.out.led.bl 1 (.int .i64 (L.round + 1))))
        obtain ⟨-, g1, -, -, -, -, -⟩ := Y5.out.led.cells
        have hlt5 : l < w5.heap.size := Y5.out.led.bs _ Y5.out.led.bl
        clear SE D5 S5 d0
        go_wp2_with fail
        obtain ⟨w6, hw6⟩ : ∃ w6, w5.setCell ⟨l, 1, none⟩ (.int .i64 (L.round + 1)) = w6 := ⟨_, rfl⟩
        rw [hw6] at Y6 Z6
        have g0 := Y6.out.led.cells.1
        have g1' := Y6.out.led.cells.2.1
        have g2' := Y6.out.led.cells.2.2.1
        have lw6 := lt_of_cell g0
        have ups : (s.lays HLs).2.settle.up.length < 1000000000 := by have := DS.settle_up (s.lays HLs).2; omega
        have TU := fun (W : World) (Bw : Below w6.heap.size w6 W) => turned_any (Y6.out.below Bw).drum (L.round + 1) L.leaves (by omega) (by omega) ups
        obtain ⟨ct, hct⟩ : ∃ ct, ((s.lays HLs).2.settle.turned (L.round + 1) L.leaves).1 = ct := ⟨_, rfl⟩
        rw [hct] at TU
        have HCT := hid hct
        have SB : ∀ W, Below w6.heap.size w6 W → W.cell? ⟨l, 0, none⟩ = some (.pointer (some ⟨d, 0, none⟩)) ∧ W.cell? ⟨l, 1, none⟩ = some (.int .i64 (L.round + 1)) ∧ W.cell? ⟨l, 2, none⟩ = some (.int .i64 L.leaves) := fun W h => ⟨Below.cellAt h lw6 g0, Below.cellAt h lw6 g1', Below.cellAt h lw6 g2'⟩
        have hM5l : ¬ M5 l := (Y6.out.led.bx _ Y6.out.led.bl).2
        simp only at g1' g2'
        clear g1 hct
        rw [hw6]
        refine wp_region_held_drew (S := fun w' => w'.cell? ⟨l, 0, none⟩ = some (.pointer (some ⟨d, 0, none⟩)) ∧ w'.cell? ⟨l, 1, none⟩ = some (.int .i64 (L.round + 1)) ∧ w'.cell? ⟨l, 2, none⟩ = some (.int .i64 L.leaves)) (by kernel_rfl) (SB _ ((Below.refl w6.heap.size w6).drew)) (fun hHeld => ?_)
        refine wpAnyH_take (i := 0) (v := ?v17) (by simp only [List.getElem?_toArray, List.getElem?_cons_zero]; rfl) (by kernel_rfl) (by kernel_rfl) (by kernel_rfl) (by exact fun _ _ _ h => h) (Or.inl ⟨by rfl, ?h17⟩) (by assumption) ?r17
        case h17 => (intro w hSw; (try dsimp only at hSw); go_simp; try with_reducible rfl)
        try simp only [Act.put, List.setIfInBounds_toArray, List.set_cons_zero, List.set_cons_succ]
        refine wpAnyH_take (i := 1) (v := ?v18) (by simp only [List.getElem?_toArray, List.getElem?_cons_zero, List.getElem?_cons_succ]; rfl) (by kernel_rfl) (by kernel_rfl) (by kernel_rfl) (by exact fun _ _ _ h => h) (Or.inl ⟨by rfl, ?h18⟩) (by assumption) ?r18
        case h18 => (intro w hSw; (try dsimp only at hSw); go_simp; try with_reducible rfl)
        try simp only [Act.put, List.setIfInBounds_toArray, List.set_cons_zero, List.set_cons_succ]
        refine wpAnyH_take (i := 2) (v := ?v19) (by simp only [List.getElem?_toArray, List.getElem?_cons_zero, List.getElem?_cons_succ]; rfl) (by kernel_rfl) (by kernel_rfl) (by kernel_rfl) (by exact fun _ _ _ h => h) (Or.inl ⟨by rfl, ?h19⟩) (by assumption) ?r19
        case h19 => (intro w hSw; (try dsimp only at hSw); go_simp; try with_reducible rfl)
        try simp only [Act.put, List.setIfInBounds_toArray, List.set_cons_zero, List.set_cons_succ]
        refine wpAnyH_take (i := 3) (v := ?v20) (by simp only [List.getElem?_toArray, List.getElem?_cons_zero, List.getElem?_cons_succ]; rfl) (by kernel_rfl) (by kernel_rfl) (by kernel_rfl) (by exact fun _ _ _ h => h) (Or.inl ⟨by rfl, ?h20⟩) (by assumption) ?r20
        case h20 => (intro w hSw; (try dsimp only at hSw); go_simp; try with_reducible rfl)
        try simp only [Act.put, List.setIfInBounds_toArray, List.set_cons_zero, List.set_cons_succ]
        refine wpAnyH_take (i := 4) (v := ?v21) (by simp only [List.getElem?_toArray, List.getElem?_cons_zero, List.getElem?_cons_succ]; rfl) (by kernel_rfl) (by kernel_rfl) (by kernel_rfl) (by exact fun _ _ _ h => h) (Or.inl ⟨by rfl, ?h21⟩) (by assumption) ?r21
        case h21 => (intro w hSw; (try dsimp only at hSw); go_simp; try with_reducible rfl)
        try simp only [Act.put, List.setIfInBounds_toArray, List.set_cons_zero, List.set_cons_succ]
        refine wpAnyH_take (i := 5) (v := ?v22) (by simp only [List.getElem?_toArray, List.getElem?_cons_zero, List.getElem?_cons_succ]; rfl) (by kernel_rfl) (by kernel_rfl) (by kernel_rfl) (by exact fun _ _ _ h => h) (Or.inl ⟨by rfl, ?h22⟩) (by assumption) ?r22
        case h22 => (intro w hSw; (try dsimp only at hSw); go_simp; try with_reducible rfl)
        try simp only [Act.put, List.setIfInBounds_toArray, List.set_cons_zero, List.set_cons_succ]
        refine wpAnyH_take (i := 6) (v := ?v23) (by simp only [List.getElem?_toArray, List.getElem?_cons_zero, List.getElem?_cons_succ]; rfl) (by kernel_rfl) (by kernel_rfl) (by kernel_rfl) (by exact fun _ _ _ h => h) (Or.inl ⟨by rfl, ?h23⟩) (by assumption) ?r23
        case h23 => (intro w hSw; (try dsimp only at hSw); go_simp; try with_reducible rfl)
        try simp only [Act.put, List.setIfInBounds_toArray, List.set_cons_zero, List.set_cons_succ]
        refine wpAnyH_take (i := 7) (v := ?v24) (by simp only [List.getElem?_toArray, List.getElem?_cons_zero, List.getElem?_cons_succ]; rfl) (by kernel_rfl) (by kernel_rfl) (by kernel_rfl) (by exact fun _ _ _ h => h) (Or.inl ⟨by rfl, ?h24⟩) (by assumption) ?r24
        case h24 => (intro w hSw; (try dsimp only at hSw); go_simp; try with_reducible rfl)
        try simp only [Act.put, List.setIfInBounds_toArray, List.set_cons_zero, List.set_cons_succ]
        refine wpAnyH_ready (rs := [8]) (by kernel_rfl) (by simp) ?_
        refine (AllReadyH.cons (by simp only [List.getElem?_toArray, List.getElem?_cons_zero, List.getElem?_cons_succ]; rfl) (fun K hK => ?_) AllReadyH.nil)
        go_simp
        go_at_call 90
        refine (TU _ ((Below.refl w6.heap.size w6).drew)).mono ?_
        rintro e w8 ⟨rfl, M8, D8, S8⟩
        have Y8 := hid ((Y6.out.below ((Below.refl w6.heap.size w6).drew)).step D8 S8)
        have Z8 := hid ((Z6.out.trans (LStep.of_below (M := M5) (B := B) ((Below.refl w6.heap.size w6).drew))).trans (LStep.of_step S8))
        refine hK.out _ _ ⟨S8.ext.cell hM5l (Below.cellAt ((Below.refl w6.heap.size w6).drew) lw6 g0), S8.ext.cell hM5l (Below.cellAt ((Below.refl w6.heap.size w6).drew) lw6 g1'), S8.ext.cell hM5l (Below.cellAt ((Below.refl w6.heap.size w6).drew) lw6 g2')⟩ (fun hH25 => ?_)
        clear hK
        try simp only [Act.put, List.setIfInBounds_toArray, List.set_cons_zero, List.set_cons_succ]
        refine wpAnyH_take (i := 9) (v := ?v26) (by simp only [List.getElem?_toArray, List.getElem?_cons_zero, List.getElem?_cons_succ]; rfl) (by kernel_rfl) (by kernel_rfl) (by kernel_rfl) (by exact fun _ _ _ h => h) (Or.inl ⟨by rfl, ?h26⟩) (by assumption) ?r26
        case h26 => (intro w hSw; (try dsimp only at hSw); go_simp; try with_reducible rfl)
        try simp only [Act.put, List.setIfInBounds_toArray, List.set_cons_zero, List.set_cons_succ]
        refine wpAnyH_done (by kernel_rfl) ?_ _
        clear D8 S8 TU
        by_cases hc : ct = 0
        · have HG := hid (goHome_went (L := L) (s := s) HHH.out (by rw [HHL.out]; exact HC.out) (by rw [HHL.out, HCD.out]) (by rw [HHL.out, HCT.out]; exact hc))
          subst hc
          have hmm := @run_makeMap Tryz.prog
          have fr := fun o => blk_free (o := o) Y8.out.led.obj
          obtain ⟨h0, h1, h2, h3, h4, h5, h6⟩ := Y8.out.led.cells
          simp only at h0 h1 h2 h3 h4 h5 h6
          have lw8 := lt_of_cell h0
          have RM := hid (Y8.out.remap (g := w8.heap.size) (w' := (((w8.setCell ⟨l, 3, none⟩ (.int .i64 0)).setCell ⟨l, 4, none⟩ (.int .i64 0)).setCell ⟨l, 5, none⟩ (.map (some w8.heap.size))).alloc (.map #[] 0)) ⟨Nat.le_refl _, by simp⟩
            (by
              have e1 : ∀ (W : World) (o : Nat) (v : Value), Ext (· = l) W (W.setCell ⟨l, o, none⟩ v) := fun W o v => ⟨rfl, rfl, rfl, by simp, fun q hq hf => Below.heap_setCell _ _ _ _ hf⟩
              exact (((e1 _ _ _).trans (e1 _ _ _) (fun _ _ h => h)).trans (e1 _ _ _) (fun _ _ h => h)).alloc _)
            (blk_at _ (by simp)) (L' := { L with round := L.round + 1, used := 0, last := 0, taken := fun _ => none })
            (blk_old _ (blk_setCell (blk_setCell (blk_setCell Y8.out.led.obj _ (o := 3)) _ (o := 4)) _ (o := 5))) rfl)
          go_wp2_with fail
          go_ret
          exact ⟨by rw [HG.out]; rfl, ⟨_, _, _, by rw [HG.out, HHL.out]; exact RM.out.1, Z8.out.trans RM.out.2⟩⟩
        · have hc1 : (ct != 0) = true := by simpa using hc
          have HG := hid (goHome_unturned (L := L) (s := s) HHH.out (by rw [HHL.out]; exact HC.out) (by rw [HHL.out, HCD.out]) (by rw [HHL.out, HCT.out]; exact hc))
          go_wp2_with fail
          go_ret
          exact ⟨by rw [HG.out, HHL.out, HCT.out]; rfl, M8, B, mb, by rw [HG.out, HHL.out]; exact Y8.out, Z8.out⟩
      · have hc1 : (cd != 0) = true := by simpa using hc
        have HG := hid (goHome_unset (L := L) (s := s) HHH.out (by rw [HHL.out]; exact HC.out) (by rw [HHL.out, HCD.out]; exact hc))
        go_wp2_with fail
        refine SE.mono ?_
        rintro e w5 ⟨rfl, M5, D5, S5⟩
        have Y5 := hid (SK.out.step D5 S5)
        have Z5 := hid (LK.out.trans (LStep.of_step S5))
        clear SE D5 S5
        go_wp2_with fail
        go_ret
        exact ⟨by rw [HG.out, HHL.out, HCD.out]; rfl, M5, B, mb, by rw [HG.out, HHL.out]; exact Y5.out, Z5.out⟩

end Go.Proofs.YtleoelhhndeheaaGreat
