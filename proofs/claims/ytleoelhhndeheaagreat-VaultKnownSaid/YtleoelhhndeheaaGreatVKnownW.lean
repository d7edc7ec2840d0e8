/- VaultKnown: the walk -/
import Derived.Test.YtleoelhhndeheaaGreatVKnA
open Go Go.RowKit
open Go.Maps (Keyed has)
namespace Go.Proofs.YtleoelhhndeheaaGreat

theorem drop_put (b : List Int) : (noRcs.putB 1 b).drop 1 = noRcs := by
  funext k
  unfold Rcs.drop Rcs.putB Rcs.put
  by_cases h : k = 1
  · rw [if_pos h]; rfl
  · rw [if_neg h, if_neg h]
theorem drop_none : noRcs.drop 1 = noRcs := by
  funext k
  unfold Rcs.drop
  split <;> rfl
theorem isB_one {x : Int} (h : 0 ≤ x ∧ x ≤ 255) : IsBytes [x] := by intro n hn; simp at hn; omega

set_option maxRecDepth 100000 in
set_option maxHeartbeats 16000000 in
theorem vaultKnown_any (w : World) : Calls Tryz.prog 9 #[] w fun e w' => e = .returned (.bool true) ∧ Below w.heap.size w w' := by
  have kc := fun (w : World) (C : Array Value) (n c : Nat) => Lib.run_convert_bytes_const (P := Tryz.prog) w 27 5 C n c Tryz.underlying27 Tryz.underlying5
  have eH : homes 40 20 = 18 := by decide
  obtain ⟨n1, hn1⟩ : ∃ n : Nat, n = 60001 := ⟨_, rfl⟩
  obtain ⟨n2, hn2⟩ : ∃ n : Nat, n = 1361 := ⟨_, rfl⟩
  obtain ⟨n3, hn3⟩ : ∃ n : Nat, n = 1360 := ⟨_, rfl⟩
  have mk1 := fun W => mkU (n := n1) (by omega) W
  have mk2 := fun W => mkU (n := n2) (by omega) W
  have mk3 := fun W => mkU (n := n3) (by omega) W
  rw [show ((n1 : Nat) : Int) = 60001 by omega] at mk1
  rw [show ((n2 : Nat) : Int) = 1361 by omega] at mk2
  rw [show ((n3 : Nat) : Int) = 1360 by omega] at mk3
  have N1 := hid hn1
  have N2 := hid hn2
  have N3 := hid hn3
  clear hn1 hn2 hn3
  have hrow : ∀ (W : World) (n : Nat), Row (W.alloc (.cells (Array.replicate n (.int .u8 0)) 5)) (some ⟨W.heap.size, 0, none⟩) (B8 (List.replicate n 0)) := fun W n => by
    have := row_at W (Array.replicate n (.int .u8 0)) 5 rfl
    simpa [B8] using this
  have HROW := hid hrow
  have HBY := hid (show ∀ n, IsBytes (List.replicate n (0 : Int)) from fun n x hx => by rw [List.eq_of_mem_replicate hx]; decide)
  clear hrow
  go_enter Tryz.func9, Tryz.ntmps9
  go_wp2_with fail
  refine (known6_any w).mono ?_
  rintro e w1 ⟨rfl, B1⟩
  have HB1 := hid B1
  clear B1
  go_wp2_with fail
  refine (VRun.found 40 20 w1 (by omega) (by omega) (by decide) (by decide)).mono ?_
  rintro e w2 ⟨d, v, rfl, VR⟩
  have VR2 := hid VR
  clear VR
  go_wp2_with fail
  refine (known6_any w2).mono ?_
  rintro e w3 ⟨rfl, B3⟩
  have HB3 := hid B3
  clear B3
  go_wp2_with fail
  refine (openVnil_any w3).mono ?_
  rintro e w4 ⟨rfl, B4⟩
  have HB4 := hid (HB3.out.trans (B4.mono HB3.out.size))
  clear B4
  go_wp2_with fail
  refine (foundVnil_any 9 w4).mono ?_
  rintro e w5 ⟨rfl, B5⟩
  have HB5 := hid (HB4.out.trans (B5.mono HB4.out.size))
  clear B5
  go_wp2_with fail
  refine (newn_any 40 w5 (by omega) (by omega)).mono ?_
  rintro e w6 ⟨d6, M6, rfl, D6, hM6, B6⟩
  have S6 := hid (⟨B6, fun q hq => hq.elim (hM6 q) (fun h => h.elim)⟩ : Since w5 w6 M6 none')
  have OR := openVraw_any D6 ⟨by omega, by omega⟩
  clear D6 hM6 B6
  go_wp2_with fail
  refine OR.mono ?_
  rintro e w7 ⟨rfl, M7, D7, T7⟩
  have VR7 := hid (VR2.out.below (HB5.out.trans ((S6.out.lstep T7).below.mono HB5.out.size)))
  clear OR D7 T7
  have TR := VR7.out.tracks
  rw [eH] at TR
  go_wp2_with fail
  refine TR.mono ?_
  rintro e w8 ⟨rfl, rfl⟩
  clear TR
  have PU1 := VR7.out.put 0 (by omega) none 0 0 [] (Row.nil _ _) rfl (by omega) (fun _ => rfl) (fun n hn => by cases hn)
  have c1 : putC noRcs (homes 40 20) false 0 0 = 1 := putC_out (by omega) 0
  rw [c1, putted_no (by rw [show ([] : List Int).length = 0 from rfl, c1]; decide)] at PU1
  clear c1
  go_wp2_with fail
  refine PU1.mono ?_
  rintro e w9 ⟨rfl, V⟩
  have VR9 := hid V
  clear PU1 V VR7 VR2
  have PU2 := VR9.out.put 41 (by omega) none 0 0 [] (Row.nil _ _) rfl (by omega) (fun _ => rfl) (fun n hn => by cases hn)
  have c2 : putC noRcs (homes 40 20) false 41 0 = 1 := putC_out (by omega) 0
  rw [c2, putted_no (by rw [show ([] : List Int).length = 0 from rfl, c2]; decide)] at PU2
  clear c2
  go_wp2_with fail
  refine PU2.mono ?_
  rintro e w10 ⟨rfl, V⟩
  have VR10 := hid V
  clear PU2 V VR9
  obtain ⟨wa, hwa⟩ : ∃ wa, w10.alloc (.cells (Array.replicate n1 (.int .u8 0)) 5) = wa := ⟨_, rfl⟩
  have PU3 := (VR10.out.below (show Below w10.heap.size w10 wa by rw [← hwa]; exact (Below.refl _ _).alloc (Nat.le_refl _) _)).put 1 (by omega) (some ⟨w10.heap.size, 0, none⟩) n1 n1 (List.replicate n1 0) (by rw [← hwa]; exact HROW.out _ _) (by simp) (by have := N1.out; omega) (fun h => by cases h) (HBY.out _)
  have c3 : putC noRcs (homes 40 20) false 1 n1 = 1 := by unfold putC; rw [if_pos (by have := N1.out; omega)]
  rw [c3, putted_no (by rw [List.length_replicate, c3]; decide)] at PU3
  clear c3
  go_wp2_with fail
  refine PU3.mono ?_
  rintro e w11 ⟨rfl, V⟩
  have VR11 := hid V
  clear PU3 V VR10 hwa
  obtain ⟨wb, hwb⟩ : ∃ wb, w11.alloc (.cells (Array.replicate n2 (.int .u8 0)) 5) = wb := ⟨_, rfl⟩
  have PU4 := (VR11.out.below (show Below w11.heap.size w11 wb by rw [← hwb]; exact (Below.refl _ _).alloc (Nat.le_refl _) _)).put 1 (by omega) (some ⟨w11.heap.size, 0, none⟩) n2 n2 (List.replicate n2 0) (by rw [← hwb]; exact HROW.out _ _) (by simp) (by have := N2.out; omega) (fun h => by cases h) (HBY.out _)
  have c4 : putC noRcs (homes 40 20) false 1 n2 = 3 := by
    unfold putC
    rw [if_neg (by have := N2.out; omega), if_neg (by simp), if_pos]
    rw [eH, used_none, show (noRcs.trks 1).length = 0 from rfl, N2.out]
    decide
  rw [c4, putted_no (by rw [List.length_replicate, c4]; decide)] at PU4
  clear c4
  go_wp2_with fail
  refine PU4.mono ?_
  rintro e w12 ⟨rfl, V⟩
  have VR12 := hid V
  clear PU4 V VR11 hwb
  obtain ⟨wc, hwc⟩ : ∃ wc, w12.alloc (.cells (Array.replicate n3 (.int .u8 0)) 5) = wc := ⟨_, rfl⟩
  have PU5 := (VR12.out.below (show Below w12.heap.size w12 wc by rw [← hwc]; exact (Below.refl _ _).alloc (Nat.le_refl _) _)).put 1 (by omega) (some ⟨w12.heap.size, 0, none⟩) n3 n3 (List.replicate n3 0) (by rw [← hwc]; exact HROW.out _ _) (by simp) (by have := N3.out; omega) (fun h => by cases h) (HBY.out _)
  have c5 : putC noRcs (homes 40 20) false 1 n3 = 0 := by
    unfold putC
    rw [if_neg (by have := N3.out; omega), if_neg (by simp), if_neg]
    rw [eH, used_none, show (noRcs.trks 1).length = 0 from rfl, N3.out]
    decide
  obtain ⟨R1, hR1⟩ : ∃ R1, noRcs.putB 1 (List.replicate n3 0) = R1 := ⟨_, rfl⟩
  have hp5 : noRcs.putted (homes 40 20) false 1 (List.replicate n3 0) = R1 := by
    unfold Rcs.putted
    rw [List.length_replicate, c5, if_pos rfl, hR1]
  rw [c5, hp5] at PU5
  have hu5 := hid (show R1.used = 18 by
    have := used_putB (RcsOk.none 18) (by decide) (by decide) (id := 1) (by omega) (b := List.replicate n3 0) (by rw [List.length_replicate, N3.out, used_none]; decide)
    rw [used_none, List.length_replicate, show (noRcs.trks 1).length = 0 from rfl, N3.out, show takes 1360 = 17 by decide, ← N3.out, hR1] at this
    omega)
  have hs5 := hid (show (R1 1).isSome = true by rw [← hR1]; unfold Rcs.putB Rcs.put; rw [if_pos rfl]; rfl)
  have hd5 := hid (show R1.drop 1 = noRcs by rw [← hR1]; exact drop_put _)
  clear c5 hp5 hR1
  go_wp2_with fail
  refine PU5.mono ?_
  rintro e w13 ⟨rfl, V⟩
  have VR13 := hid V
  clear PU5 V VR12 hwc mk1 mk2 mk3
  have FR := VR13.out.free
  rw [eH, hu5.out, show ((18 : Nat) : Int) - ((18 : Nat) : Int) = 0 by decide] at FR
  go_wp2_with fail
  refine FR.mono ?_
  rintro e w14 ⟨rfl, V⟩
  have VR14 := hid V
  clear FR V VR13
  have DR := VR14.out.drop 1 (by omega)
  rw [hs5.out, hd5.out] at DR
  go_wp2_with fail
  refine DR.mono ?_
  rintro e w15 ⟨rfl, V⟩
  have VR15 := hid V
  clear DR V VR14
  have DR := VR15.out.drop 1 (by omega)
  rw [drop_none, show (noRcs 1).isSome = false from rfl] at DR
  go_wp2_with fail
  refine DR.mono ?_
  rintro e w16 ⟨rfl, V⟩
  have VR16 := hid V
  clear DR V VR15
  obtain ⟨W1, hW1⟩ : ∃ W1, w16.alloc (.cells #[.int .u8 120] 5 (1, 2)) = W1 := ⟨_, rfl⟩
  have r1 : Row W1 (some ⟨w16.heap.size, 0, none⟩) (B8 [120]) := row_blkF (cs := #[.int .u8 120]) (t := 5) (fr := (1, 2)) (by rw [← hW1]; show (w16.heap.push _)[w16.heap.size]? = _; simp)
  have PU6 := (VR16.out.below (show Below w16.heap.size w16 W1 by rw [← hW1]; exact (Below.refl _ _).alloc (Nat.le_refl _) _)).put 5 (by omega) (some ⟨w16.heap.size, 0, none⟩) 1 1 [120] r1 rfl (by omega) (fun h => by cases h) (isB_one (by omega))
  rw [show putC noRcs (homes 40 20) false 5 1 = 0 by decide] at PU6
  clear r1
  go_wp2_with fail
  refine PU6.mono ?_
  rintro e w17 ⟨rfl, V⟩
  have VR17 := hid V
  clear PU6 V VR16 hW1
  have UN := VR17.out.undo
  go_wp2_with fail
  refine UN.mono ?_
  rintro e w18 ⟨rfl, V⟩
  have VR18 := hid V
  clear UN V VR17
  have GE := VR18.out.get 5 (by omega)
  rw [show (noRcs 5).isSome = false from rfl] at GE
  go_wp2_with fail
  refine GE.mono ?_
  rintro e w19 ⟨u19, rfl, V⟩
  have VR19 := hid V
  clear GE V VR18
  have BR := VR19.out.brk (by omega)
  go_wp2_with fail
  refine BR.mono ?_
  rintro e w20 ⟨rfl, V⟩
  have VB20 := hid V
  clear BR V VR19
  obtain ⟨W2, hW2⟩ : ∃ W2, w20.alloc (.cells #[.int .u8 121] 5 (1, 2)) = W2 := ⟨_, rfl⟩
  have r2 : Row W2 (some ⟨w20.heap.size, 0, none⟩) (B8 [121]) := row_blkF (cs := #[.int .u8 121]) (t := 5) (fr := (1, 2)) (by rw [← hW2]; show (w20.heap.push _)[w20.heap.size]? = _; simp)
  have PU7 := (VB20.out.below (show Below w20.heap.size w20 W2 by rw [← hW2]; exact (Below.refl _ _).alloc (Nat.le_refl _) _)).put 6 (by omega) (some ⟨w20.heap.size, 0, none⟩) 1 1 [121] r2 rfl (by omega) (fun h => by cases h) (isB_one (by omega))
  rw [show putC noRcs (homes 40 20) false 6 1 = 0 by decide, show noRcs.putted (homes 40 20) false 6 [121] = noRcs.putB 6 [121] by unfold Rcs.putted; rw [if_pos (by decide)]] at PU7
  clear r2
  go_wp2_with fail
  refine PU7.mono ?_
  rintro e w21 ⟨rfl, V⟩
  have VB21 := hid V
  clear PU7 V VB20 hW2
  have ok6 : RcsOk (noRcs.putB 6 [121]) 18 := by
    have h := putted_ok (lost := false) (id := 6) (b := [121]) (RcsOk.none 18) (by decide) (by decide) (isB_one (by omega))
    have e : noRcs.putted 18 false 6 [121] = noRcs.putB 6 [121] := by
      unfold Rcs.putted
      rw [if_pos (by decide)]
    rwa [e] at h
  have u6 : (noRcs.putB 6 [121]).used = 2 := by
    have := used_putB (RcsOk.none 18) (by decide) (by decide) (id := 6) (by omega) (b := [121]) (by decide)
    rw [used_none, show takes [(121 : Int)].length = 1 by decide, show (noRcs.trks 6).length = 0 from rfl] at this
    omega
  have hne : turnedL noRcs (noRcs.putB 6 [121]) ≠ [] := fun h => by
    have h2 := turned_nil (RcsOk.none 18) ok6 ⟨by omega, by omega⟩ h
    have h3 := congrFun h2 6
    unfold Rcs.putB Rcs.put at h3
    rw [if_pos rfl] at h3
    cases h3
  have hfit : leavesN (turnedL noRcs (noRcs.putB 6 [121])).length ≤ 20 := by
    have := turned_used (K := noRcs) ok6
    rw [u6] at this
    unfold leavesN
    split <;> omega
  have KE := VB21.out.keep hne hfit
  clear hne hfit ok6 u6
  go_wp2_with fail
  refine KE.mono ?_
  rintro e w22 ⟨rfl, V⟩
  have VD22 := hid V
  clear KE V VB21
  have PU8 := VD22.out.put 7 (by omega) none 0 0 [] (Row.nil _ _) rfl (by omega) (fun _ => rfl) (fun n hn => by cases hn)
  go_wp2_with fail
  refine PU8.mono ?_
  rintro e w23 ⟨rfl, V⟩
  have VD23 := hid V
  clear PU8 V VD22
  have LO := VD23.out.lost
  go_wp2_with fail
  refine LO.mono ?_
  rintro e w24 ⟨rfl, rfl⟩
  clear LO
  have SE := VD23.out.settle
  go_wp2_with fail
  refine SE.mono ?_
  rintro e w25 ⟨rfl, B25⟩
  have HB25 := hid B25
  clear SE B25
  go_wp2_with fail
  refine (takes_neg (-1) w25 (by omega)).mono ?_
  rintro e w26 ⟨rfl, rfl⟩
  go_wp2_with fail
  go_ret
  exact ⟨rfl, HB1.out.trans (HB25.out.mono HB1.out.size)⟩

end Go.Proofs.YtleoelhhndeheaaGreat
