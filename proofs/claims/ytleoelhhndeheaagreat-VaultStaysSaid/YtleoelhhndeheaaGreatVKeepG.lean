/- package vault: Keep, whatever the drum does; what stands without a drum; a drum that was not founded -/
import Derived.Test.YtleoelhhndeheaaGreatVCopy
open Go Go.RowKit
open Go.Maps (Keyed has)
namespace Go.Proofs.YtleoelhhndeheaaGreat

/-- what a Keep answers, whatever the drum does -/
def KeepGAns (w : World) (M : Dom) (B C : Nat → Prop) (d l v : Nat) (now kept : Rcs) (r : Int × LS × DS) (e : Ending) (w' : World) : Prop :=
  (turnedL kept now = [] ∧ e = .returned (.int .i64 0) ∧ Below w.heap.size w w') ∨
  (turnedL kept now ≠ [] ∧ ∃ M' B' C' mb', LStep M (fun q => B q ∨ C q) w M' (fun q => B' q ∨ C' q) w' ∧ e = .returned (.int .i64 r.1) ∧
    ((r.1 = 0 ∧ VSys w' M' B' C' d l mb' v r.2.2 r.2.1 now now) ∨ (r.1 = 5 ∧ VSys w' M' B' C' d l mb' v r.2.2 r.2.1 kept kept) ∨ ((r.1 ≠ 0 ∧ r.1 ≠ 5) ∧ VSys w' M' B' C' d l mb' v r.2.2 r.2.1 now kept)))

set_option maxRecDepth 100000 in
set_option maxHeartbeats 8000000 in
theorem keepG {w : World} {M : Dom} {B C : Nat → Prop} {d l mb v : Nat} {s : DS} {L : LS} {now kept : Rcs} {H : Nat} (h : VSys w M B C d l mb v s L now kept) (hlo : L.lost = false) (ok : L.Ok s) (hr : L.round < 281474976700000) (hu : s.up.length < 300000000) (hH : 2 ≤ H ∧ H ≤ 600) (okn : RcsOk now H) (okk : RcsOk kept H) :
    Calls Tryz.prog 17 #[.pointer (some ⟨v, 0, none⟩)] w (KeepGAns w M B C d l v now kept (L.write s (turnedL kept now))) := by
  have HV := hid h
  have LO := lostV_any h
  rw [hlo] at LO
  have TU := turnedV_any h ⟨hH.1, by omega⟩ okn okk
  obtain ⟨d1, t1, d2, t2, h2⟩ := h.out
  obtain ⟨c0, c1, c2, c3, c4⟩ := h2.cells
  have lvw := lt_of_cell c0
  obtain ⟨el, hel⟩ : ∃ el, turnedL kept now = el := ⟨_, rfl⟩
  rw [hel] at TU
  have HEL := hid hel
  have ELB := hid (show el.length ≤ 600 by rw [← hel]; have := turned_le (K := kept) okn hH.1; omega)
  have HOK := hid ok
  have HOKN := hid okn
  have HOKK := hid okk
  rw [hel]
  obtain ⟨r, hrr⟩ : ∃ r, L.write s el = r := ⟨_, rfl⟩
  have HRR := hid hrr
  rw [hrr]
  obtain ⟨k, L', s'⟩ := r
  clear h h2 hel okn okk ok hrr
  go_enter Tryz.func17, Tryz.ntmps17
  go_wp2_with fail
  refine LO.mono ?_
  rintro e w1 ⟨rfl, rfl⟩
  clear LO
  go_wp2_with fail
  refine TU.mono ?_
  rintro e w2 ⟨u, rfl, EO, B2⟩
  clear TU
  obtain ⟨a, c, rfl, EA, hlc⟩ := EO.out (N := inD M) (fun q hq _ => by
    rcases Nat.lt_or_ge q w.heap.size with h | h
    · exact h
    · exact absurd hq (HV.out.free h))
  have HB2 := hid B2
  have HV2 := hid (HV.out.below B2)
  have HEA := hid EA
  have k0 := Below.cellAt B2 lvw c0
  obtain ⟨m, hm⟩ : ∃ m, el.length = m := ⟨_, rfl⟩
  have HM := hid hm
  rw [hm]
  have HC := hid hlc
  clear EO B2 EA hlc hm
  by_cases hm0 : m = 0
  · subst hm0
    have hnil := hid (show turnedL kept now = [] by rw [HEL.out]; exact List.eq_nil_of_length_eq_zero HM.out)
    go_wp2_with fail
    go_ret
    exact .inl ⟨hnil.out, rfl, HB2.out⟩
  · have hm1 : ((m : Int) == 0) = false := by simp; omega
    have WU := write_any HV2.out.sys HOK.out hr hu a m c el (by rw [← HM.out]; exact HEA.out) (by have := ELB.out; rw [HM.out] at this; omega)
    rw [HRR.out] at WU
    have hne := hid (show turnedL kept now ≠ [] by
      rw [HEL.out]
      intro e
      rw [e] at HM
      exact hm0 HM.out.symm)
    go_wp2_with fail
    refine WU.mono ?_
    rintro e w3 ⟨rfl, M3, B3, mb3, SY3, T3⟩
    have VS3 := hid (HV2.out.lstep SY3 T3)
    have T3H := hid (((LStep.of_below HB2.out).trans T3).vault (C := C))
    clear WU SY3 T3
    by_cases hk0 : k = 0
    · subst hk0
      obtain ⟨e1, e2, e3, e4, h3⟩ := VS3.out.out
      obtain ⟨f0, f1, f2, f3, f4⟩ := h3.cells
      have CO := copied_any h3.now (fun x hx => by
        cases hn : now x with
        | none => rw [hn] at hx; cases hx
        | some y => have := HOKN.out.id x y hn; omega)
      have H3 := hid h3
      clear h3 k0
      go_wp2_with fail
      refine CO.mono ?_
      rintro e w4 ⟨dn, tn, rfl, ld, lt, RP, B4⟩
      clear CO
      have obj1 : w4.heap[v]? = some (.cells (vltCells l e1 e2 e3 e4) 71 (0, 0)) := (Ext.of_below B4 (fun _ => False)).blk (fun h => h) H3.out.obj
      have g3 := blk_cell (o := 3) (v := .map (some e3)) obj1 rfl
      have g4 := blk_cell (o := 4) (v := .map (some e4)) obj1 rfl
      have fr := fun o => blk_free (o := o) obj1
      have HRP := hid RP
      have OB := hid obj1
      have HB4 := hid B4
      clear obj1 RP B4 f0 f1 f2 f3 f4
      go_wp2_with fail
      go_ret
      obtain ⟨VF, ST⟩ := VSys.rekept VS3.out H3.out HB4.out OB.out HRP.out ld lt
      exact .inr ⟨hne.out, _, _, _, _, T3H.out.trans (ST.vault (B := B3)), rfl, .inl ⟨rfl, VF⟩⟩
    · have hkz : (k == 0) = false := by simp [hk0]
      by_cases hk5 : k = 5
      · subst hk5
        have UN := undoV_any VS3.out HOKK.out
        go_wp2_with fail
        refine UN.mono ?_
        rintro e w4 ⟨rfl, M4, C4, VS4, ST4⟩
        have VS4H := hid VS4
        have ST4H := hid (ST4.vault (B := B3))
        clear UN VS4 ST4
        go_wp2_with fail
        go_ret
        exact .inr ⟨hne.out, _, _, _, _, T3H.out.trans ST4H.out, rfl, .inr (.inl ⟨rfl, VS4H.out⟩)⟩
      · have hk5z : (k == 5) = false := by simp [hk5]
        go_wp2_with fail
        go_ret
        exact .inr ⟨hne.out, _, _, _, _, T3H.out, rfl, .inr (.inr ⟨⟨hk0, hk5⟩, VS3.out⟩)⟩

end Go.Proofs.YtleoelhhndeheaaGreat
