/- package ledger: Look, Write, Open -/
import Derived.Test.YtleoelhhndeheaaGreatLedM
open Go Go.RowKit
namespace Go.Proofs.YtleoelhhndeheaaGreat

/-- a ledger behind a look -/
def LS.lookL (L : LS) (s : DS) (k : Int) : LS := if 0 ≤ k ∧ k < L.H s ∧ L.lost = false ∧ L.taken k = none ∧ s.broken = true then L.ends 4 else L
def LookAns (w : World) (M : Dom) (B : Nat → Prop) (d l mb : Nat) (s : DS) (L : LS) (k : Int) (e : Ending) (w' : World) : Prop :=
  ∃ a n c, e = .returned (.tuple #[.slice a n c, .int .i64 (L.lookC s k)]) ∧ w'.ownsRow w.heap.size 5 1 (.slice a n c) n (B8 (L.lookZ s k)) ∧ IsBytes (L.lookZ s k) ∧ Sys w' M B d l mb s (L.lookL s k) ∧ LStep M B w M B w'
theorem nil_bytes {z : List Int} (h : z = []) : IsBytes z := by subst h; intro n hn; cases hn
theorem ends_zero (L : LS) : L.ends 0 = L := by
  unfold LS.ends
  rw [show decide ((0 : Int) = 4) = false from rfl, Bool.or_false]
theorem TknAt.at {w : World} {M : Dom} {mb : Nat} {T : Tkn} (h : TknAt w M mb T) {k : Int} (hk : -1000000 ≤ k ∧ k ≤ 1000000) :
    (T k = none ∧ (Instr.lookup 65 (.map (some mb)) (.int .i64 k) true).run Tryz.prog w = .ok (.tuple #[.slice none 0 0, .bool false]) w) ∨
      ∃ v zs, T k = some zs ∧ Trk w M v zs ∧ (Instr.lookup 65 (.map (some mb)) (.int .i64 k) true).run Tryz.prog w = .ok (.tuple #[v, .bool true]) w := by
  obtain ⟨V, h1, h2⟩ := h.out
  have lk := h1.look_ok Tryz.underlying65 (zP w) (x := k) (by omega)
  rcases h2 k with ⟨e1, e2⟩ | ⟨v, zs, e1, e2, e3⟩
  · rw [e1] at lk
    exact .inl ⟨e2, lk⟩
  · rw [e1] at lk
    exact .inr ⟨v, zs, e2, e3, lk⟩

set_option maxRecDepth 100000 in
set_option maxHeartbeats 8000000 in
theorem lookL_any {w : World} {M : Dom} {B : Nat → Prop} {d l mb : Nat} {s : DS} {L : LS} (h : Sys w M B d l mb s L) (ok : L.Ok s) (k : Int) (hk : -1000000 ≤ k ∧ k ≤ 1000000) :
    Calls Tryz.prog 76 #[.pointer (some ⟨l, 0, none⟩), .int .i64 k] w (LookAns w M B d l mb s L k) := by
  have HS := hid h
  have okl := ok.l
  have okn := ok.n1
  have OKT := hid ok.t
  have OKZ := hid ok.z
  obtain ⟨H, hH, hH2⟩ : ∃ H : Nat, L.H s = H ∧ (H : Int) + (2 + L.leaves) = s.n := ⟨_, rfl, by unfold LS.H; omega⟩
  have HHH := hid hH
  have HA := home_any h ok.lv
  rw [hH] at HA
  have HO := fun (W : World) (Bw : Below w.heap.size w W) => homeAt_any (h.below Bw) ok.lv k hk
  obtain ⟨c0, -, -, -, -, c5, c6⟩ := h.led.cells
  have lw := lt_of_cell c0
  have TA := h.led.tkn.at hk
  by_cases hk0 : k < 0
  · have HC := hid (show L.lookC s k = 1 by unfold LS.lookC; rw [if_neg (by omega)])
    have HZ := hid (show L.lookZ s k = [] by unfold LS.lookZ; rw [HC.out]; rfl)
    have HL := hid (show L.lookL s k = L by unfold LS.lookL; rw [if_neg (by omega)])
    clear h TA ok hH
    go_enter Tryz.func76, Tryz.ntmps76
    go_wp2_with fail
    go_ret2
    exact ⟨none, 0, 0, by rw [HC.out]; rfl, by rw [HZ.out]; exact World.ownsRow_nil _ _ _ _, nil_bytes HZ.out, by rw [HL.out]; exact HS.out, LStep.refl _ _ _⟩
  · by_cases hkH : k < (H : Int)
    · have hge : decide ((H : Int) ≤ k) = false := decide_eq_false (by omega)
      obtain ⟨lo, hlo⟩ : ∃ lo, L.lost = lo := ⟨_, rfl⟩
      rw [hlo] at c6
      have HLO := hid hlo
      clear hlo
      have HIN := hid (show 0 ≤ k ∧ k < L.H s by rw [hH]; omega)
      cases lo with
      | true =>
        have HC := hid (show L.lookC s k = 4 by unfold LS.lookC; rw [if_pos HIN.out, HLO.out]; rfl)
        have HZ := hid (show L.lookZ s k = [] by unfold LS.lookZ; rw [HC.out]; rfl)
        have HL := hid (show L.lookL s k = L by unfold LS.lookL; rw [if_neg]; rintro ⟨-, -, e, -⟩; rw [HLO.out] at e; cases e)
        clear h TA ok hH
        go_enter Tryz.func76, Tryz.ntmps76
        go_wp2_with fail
        refine HA.mono ?_
        rintro e w1 ⟨rfl, rfl⟩
        clear HA HO
        go_wp2_with fail
        go_ret2
        exact ⟨none, 0, 0, by rw [HC.out]; rfl, by rw [HZ.out]; exact World.ownsRow_nil _ _ _ _, nil_bytes HZ.out, by rw [HL.out]; exact HS.out, LStep.refl _ _ _⟩
      | false =>
        rcases TA with ⟨ht, lk⟩ | ⟨v, zs, ht, ⟨ta, tc, rfl, tr, t96, tM, tby, tcc⟩, lk⟩
        · have hkn : (2 + L.leaves + k).toNat < s.n := by omega
          have hkc : ((2 + L.leaves + k).toNat : Int) = 2 + L.leaves + k := by omega
          obtain ⟨br, hbr⟩ : ∃ br, s.broken = br := ⟨_, rfl⟩
          have SB : ∀ W, Below w.heap.size w W → W.cell? ⟨l, 0, none⟩ = some (.pointer (some ⟨d, 0, none⟩)) ∧ True := fun W h => ⟨Below.cellAt h lw c0, trivial⟩
          cases br with
          | true =>
            have HC := hid (show L.lookC s k = 4 by unfold LS.lookC; rw [if_pos HIN.out, HLO.out, ht, hbr]; rfl)
            have HZ := hid (show L.lookZ s k = [] by unfold LS.lookZ; rw [HC.out]; rfl)
            have HL := hid (show L.lookL s k = L.ends 4 by unfold LS.lookL; rw [if_pos ⟨HIN.out.1, HIN.out.2, HLO.out, ht, hbr⟩])
            have LK := fun (W : World) (Bw : Below w.heap.size w W) => look_down (h.drum.below Bw) hbr (2 + L.leaves + k).toNat hkn
            rw [hkc] at LK
            have HKC := hid hkc
            clear h ok hH ht hbr hkc hkn
            go_enter Tryz.func76, Tryz.ntmps76
            go_wp2_with fail
            refine HA.mono ?_
            rintro e w1 ⟨rfl, rfl⟩
            clear HA
            go_wp2_with fail
            refine wp_region_held_drew (S := fun w' => w'.cell? ⟨l, 0, none⟩ = some (.pointer (some ⟨d, 0, none⟩)) ∧ True) (by kernel_rfl) (SB _ ((Below.refl w.heap.size w).drew)) (fun hHeld => ?_)
            refine wpAnyH_take (i := 0) (v := ?v1) (by simp only [List.getElem?_toArray, List.getElem?_cons_zero]; rfl) (by kernel_rfl) (by kernel_rfl) (by kernel_rfl) (by exact fun _ _ _ h => h) (Or.inl ⟨by rfl, ?h1⟩) (by assumption) ?r1
            case h1 => (intro w hSw; (try dsimp only at hSw); go_simp; try with_reducible rfl)
            try simp only [Act.put, List.setIfInBounds_toArray, List.set_cons_zero, List.set_cons_succ]
            refine wpAnyH_take (i := 1) (v := ?v2) (by simp only [List.getElem?_toArray, List.getElem?_cons_zero, List.getElem?_cons_succ]; rfl) (by kernel_rfl) (by kernel_rfl) (by kernel_rfl) (by exact fun _ _ _ h => h) (Or.inl ⟨by rfl, ?h2⟩) (by assumption) ?r2
            case h2 => (intro w hSw; (try dsimp only at hSw); go_simp; try with_reducible rfl)
            try simp only [Act.put, List.setIfInBounds_toArray, List.set_cons_zero, List.set_cons_succ]
            refine wpAnyH_take (i := 2) (v := ?v3) (by simp only [List.getElem?_toArray, List.getElem?_cons_zero, List.getElem?_cons_succ]; rfl) (by kernel_rfl) (by kernel_rfl) (by kernel_rfl) (by exact fun _ _ _ h => h) (Or.inl ⟨by rfl, ?h3⟩) (by assumption) ?r3
            case h3 => (intro w hSw; (try dsimp only at hSw); go_simp; try with_reducible rfl)
            try simp only [Act.put, List.setIfInBounds_toArray, List.set_cons_zero, List.set_cons_succ]
            refine wpAnyH_take (i := 3) (v := ?v4) (by simp only [List.getElem?_toArray, List.getElem?_cons_zero, List.getElem?_cons_succ]; rfl) (by kernel_rfl) (by kernel_rfl) (by kernel_rfl) (by exact fun _ _ _ h => h) (Or.inl ⟨by rfl, ?h4⟩) (by assumption) ?r4
            case h4 => (intro w hSw; (try dsimp only at hSw); go_simp; try with_reducible rfl)
            try simp only [Act.put, List.setIfInBounds_toArray, List.set_cons_zero, List.set_cons_succ]
            refine wpAnyH_take (i := 4) (v := ?v5) (by simp only [List.getElem?_toArray, List.getElem?_cons_zero, List.getElem?_cons_succ]; rfl) (by kernel_rfl) (by kernel_rfl) (by kernel_rfl) (by exact fun _ _ _ h => h) (Or.inl ⟨by rfl, ?h5⟩) (by assumption) ?r5
            case h5 => (intro w hSw; (try dsimp only at hSw); go_simp; try with_reducible rfl)
            try simp only [Act.put, List.setIfInBounds_toArray, List.set_cons_zero, List.set_cons_succ]
            refine wpAnyH_take (i := 5) (v := ?v6) (by simp only [List.getElem?_toArray, List.getElem?_cons_zero, List.getElem?_cons_succ]; rfl) (by kernel_rfl) (by kernel_rfl) (by kernel_rfl) (by exact fun _ _ _ h => h) (Or.inl ⟨by rfl, ?h6⟩) (by assumption) ?r6
            case h6 => (intro w hSw; (try dsimp only at hSw); go_simp; try with_reducible rfl)
            try simp only [Act.put, List.setIfInBounds_toArray, List.set_cons_zero, List.set_cons_succ]
            refine wpAnyH_ready (rs := [6]) (by kernel_rfl) (by simp) ?_
            refine (AllReadyH.cons (by simp only [List.getElem?_toArray, List.getElem?_cons_zero, List.getElem?_cons_succ]; rfl) (fun K hK => ?_) AllReadyH.nil)
            go_simp
            go_at_call 87
            refine (HO _ ((Below.refl w.heap.size w).drew)).mono ?_
            rintro e wq7 ⟨rfl, rfl⟩
            refine hK.out _ _ (SB _ (Below.refl w.heap.size w).drew) (fun hH8 => ?_)
            clear hK
            try simp only [Act.put, List.setIfInBounds_toArray, List.set_cons_zero, List.set_cons_succ]
            refine wpAnyH_ready (rs := [7]) (by kernel_rfl) (by simp) ?_
            refine (AllReadyH.cons (by simp only [List.getElem?_toArray, List.getElem?_cons_zero, List.getElem?_cons_succ]; rfl) (fun K hK => ?_) AllReadyH.nil)
            go_simp
            go_at_call 20
            refine (LK _ ((Below.refl w.heap.size w).drew)).mono ?_
            rintro e wq9 ⟨rfl, C9⟩
            have BB9 := ((Below.refl w.heap.size w).drew).trans (C9.mono (Below.size ((Below.refl w.heap.size w).drew)))
            refine hK.out _ _ (SB _ BB9) (fun hH10 => ?_)
            clear hK
            try simp only [Act.put, List.setIfInBounds_toArray, List.set_cons_zero, List.set_cons_succ]
            refine wpAnyH_take (i := 8) (v := ?v11) (by simp only [List.getElem?_toArray, List.getElem?_cons_zero, List.getElem?_cons_succ]; rfl) (by kernel_rfl) (by kernel_rfl) (by kernel_rfl) (by exact fun _ _ _ h => h) (Or.inl ⟨by rfl, ?h11⟩) (by assumption) ?r11
            case h11 => (intro w hSw; (try dsimp only at hSw); go_simp; try with_reducible rfl)
            try simp only [Act.put, List.setIfInBounds_toArray, List.set_cons_zero, List.set_cons_succ]
            refine wpAnyH_take (i := 9) (v := ?v12) (by simp only [List.getElem?_toArray, List.getElem?_cons_zero, List.getElem?_cons_succ]; rfl) (by kernel_rfl) (by kernel_rfl) (by kernel_rfl) (by exact fun _ _ _ h => h) (Or.inl ⟨by rfl, ?h12⟩) (by assumption) ?r12
            case h12 => (intro w hSw; (try dsimp only at hSw); go_simp; try with_reducible rfl)
            try simp only [Act.put, List.setIfInBounds_toArray, List.set_cons_zero, List.set_cons_succ]
            refine wpAnyH_take (i := 10) (v := ?v13) (by simp only [List.getElem?_toArray, List.getElem?_cons_zero, List.getElem?_cons_succ]; rfl) (by kernel_rfl) (by kernel_rfl) (by kernel_rfl) (by exact fun _ _ _ h => h) (Or.inl ⟨by rfl, ?h13⟩) (by assumption) ?r13
            case h13 => (intro w hSw; (try dsimp only at hSw); go_simp; try with_reducible rfl)
            try simp only [Act.put, List.setIfInBounds_toArray, List.set_cons_zero, List.set_cons_succ]
            refine wpAnyH_take (i := 11) (v := ?v14) (by simp only [List.getElem?_toArray, List.getElem?_cons_zero, List.getElem?_cons_succ]; rfl) (by kernel_rfl) (by kernel_rfl) (by kernel_rfl) (by exact fun _ _ _ h => h) (Or.inl ⟨by rfl, ?h14⟩) (by assumption) ?r14
            case h14 => (intro w hSw; (try dsimp only at hSw); go_simp; try with_reducible rfl)
            try simp only [Act.put, List.setIfInBounds_toArray, List.set_cons_zero, List.set_cons_succ]
            refine wpAnyH_take (i := 12) (v := ?v15) (by simp only [List.getElem?_toArray, List.getElem?_cons_zero, List.getElem?_cons_succ]; rfl) (by kernel_rfl) (by kernel_rfl) (by kernel_rfl) (by exact fun _ _ _ h => h) (Or.inl ⟨by rfl, ?h15⟩) (by assumption) ?r15
            case h15 => (intro w hSw; (try dsimp only at hSw); go_simp; try with_reducible rfl)
            try simp only [Act.put, List.setIfInBounds_toArray, List.set_cons_zero, List.set_cons_succ]
            refine wpAnyH_done (by kernel_rfl) ?_ _
            have S2 := hid (HS.out.below (BB9))
            have L2 := hid (show LStep M B w M B wq9 from LStep.of_below (BB9))
            have EN := ends_any S2.out 4
            go_wp2_with fail
            refine EN.mono ?_
            rintro e w7 ⟨rfl, Y7, Z7⟩
            have Y7H := hid Y7
            have Z7H := hid (L2.out.trans Z7)
            clear EN Y7 Z7
            go_wp2_with fail
            go_ret2
            exact ⟨none, 0, 0, by rw [HC.out]; rfl, by rw [HZ.out]; exact World.ownsRow_nil _ _ _ _, nil_bytes HZ.out, by rw [HL.out]; exact Y7H.out, Z7H.out⟩
          | false =>
            have HC := hid (show L.lookC s k = 0 by unfold LS.lookC; rw [if_pos HIN.out, HLO.out, ht, hbr]; rfl)
            have HZ := hid (show L.lookZ s k = s.now (2 + L.leaves + k).toNat by unfold LS.lookZ; rw [HC.out, ht]; rfl)
            have HL := hid (show L.lookL s k = L by unfold LS.lookL; rw [if_neg]; rintro ⟨-, -, -, -, e⟩; rw [hbr] at e; cases e)
            have LK := fun (W : World) (Bw : Below w.heap.size w W) => look_up (h.drum.below Bw) hbr (2 + L.leaves + k).toNat hkn
            rw [hkc] at LK
            have HKC := hid hkc
            obtain ⟨zz, hzz⟩ : ∃ zz, s.now (2 + L.leaves + k).toNat = zz := ⟨_, rfl⟩
            rw [hzz] at LK
            have HZZ := hid (HZ.out.trans hzz)
            clear h ok hH ht hbr hkc hkn hzz
            go_enter Tryz.func76, Tryz.ntmps76
            go_wp2_with fail
            refine HA.mono ?_
            rintro e w1 ⟨rfl, rfl⟩
            clear HA
            go_wp2_with fail
            refine wp_region_held_drew (S := fun w' => w'.cell? ⟨l, 0, none⟩ = some (.pointer (some ⟨d, 0, none⟩)) ∧ True) (by kernel_rfl) (SB _ ((Below.refl w.heap.size w).drew)) (fun hHeld => ?_)
            refine wpAnyH_take (i := 0) (v := ?v16) (by simp only [List.getElem?_toArray, List.getElem?_cons_zero]; rfl) (by kernel_rfl) (by kernel_rfl) (by kernel_rfl) (by exact fun _ _ _ h => h) (Or.inl ⟨by rfl, ?h16⟩) (by assumption) ?r16
            case h16 => (intro w hSw; (try dsimp only at hSw); go_simp; try with_reducible rfl)
            try simp only [Act.put, List.setIfInBounds_toArray, List.set_cons_zero, List.set_cons_succ]
            refine wpAnyH_take (i := 1) (v := ?v17) (by simp only [List.getElem?_toArray, List.getElem?_cons_zero, List.getElem?_cons_succ]; rfl) (by kernel_rfl) (by kernel_rfl) (by kernel_rfl) (by exact fun _ _ _ h => h) (Or.inl ⟨by rfl, ?h17⟩) (by assumption) ?r17
            case h17 => (intro w hSw; (try dsimp only at hSw); go_simp; try with_reducible rfl)
            try simp only [Act.put, List.setIfInBounds_toArray, List.set_cons_zero, List.set_cons_succ]
            refine wpAnyH_take (i := 2) (v := ?v18) (by simp only [List.getElem?_toArray, List.getElem?_cons_zero, List.getElem?_cons_succ]; rfl) (by kernel_rfl) (by kernel_rfl) (by kernel_rfl) (by exact fun _ _ _ h => h) (Or.inl ⟨by rfl, ?h18⟩) (by assumption) ?r18
            case h18 => (intro w hSw; (try dsimp only at hSw); go_simp; try with_reducible rfl)
            try simp only [Act.put, List.setIfInBounds_toArray, List.set_cons_zero, List.set_cons_succ]
            refine wpAnyH_take (i := 3) (v := ?v19) (by simp only [List.getElem?_toArray, List.getElem?_cons_zero, List.getElem?_cons_succ]; rfl) (by kernel_rfl) (by kernel_rfl) (by kernel_rfl) (by exact fun _ _ _ h => h) (Or.inl ⟨by rfl, ?h19⟩) (by assumption) ?r19
            case h19 => (intro w hSw; (try dsimp only at hSw); go_simp; try with_reducible rfl)
            try simp only [Act.put, List.setIfInBounds_toArray, List.set_cons_zero, List.set_cons_succ]
            refine wpAnyH_take (i := 4) (v := ?v20) (by simp only [List.getElem?_toArray, List.getElem?_cons_zero, List.getElem?_cons_succ]; rfl) (by kernel_rfl) (by kernel_rfl) (by kernel_rfl) (by exact fun _ _ _ h => h) (Or.inl ⟨by rfl, ?h20⟩) (by assumption) ?r20
            case h20 => (intro w hSw; (try dsimp only at hSw); go_simp; try with_reducible rfl)
            try simp only [Act.put, List.setIfInBounds_toArray, List.set_cons_zero, List.set_cons_succ]
            refine wpAnyH_take (i := 5) (v := ?v21) (by simp only [List.getElem?_toArray, List.getElem?_cons_zero, List.getElem?_cons_succ]; rfl) (by kernel_rfl) (by kernel_rfl) (by kernel_rfl) (by exact fun _ _ _ h => h) (Or.inl ⟨by rfl, ?h21⟩) (by assumption) ?r21
            case h21 => (intro w hSw; (try dsimp only at hSw); go_simp; try with_reducible rfl)
            try simp only [Act.put, List.setIfInBounds_toArray, List.set_cons_zero, List.set_cons_succ]
            refine wpAnyH_ready (rs := [6]) (by kernel_rfl) (by simp) ?_
            refine (AllReadyH.cons (by simp only [List.getElem?_toArray, List.getElem?_cons_zero, List.getElem?_cons_succ]; rfl) (fun K hK => ?_) AllReadyH.nil)
            go_simp
            go_at_call 87
            refine (HO _ ((Below.refl w.heap.size w).drew)).mono ?_
            rintro e wq22 ⟨rfl, rfl⟩
            refine hK.out _ _ (SB _ (Below.refl w.heap.size w).drew) (fun hH23 => ?_)
            clear hK
            try simp only [Act.put, List.setIfInBounds_toArray, List.set_cons_zero, List.set_cons_succ]
            refine wpAnyH_ready (rs := [7]) (by kernel_rfl) (by simp) ?_
            refine (AllReadyH.cons (by simp only [List.getElem?_toArray, List.getElem?_cons_zero, List.getElem?_cons_succ]; rfl) (fun K hK => ?_) AllReadyH.nil)
            go_simp
            go_at_call 20
            refine (LK _ ((Below.refl w.heap.size w).drew)).mono ?_
            rintro e wq24 ⟨g24, c24, rfl, o24, z24, y24, k24, C24⟩
            have BB24 := ((Below.refl w.heap.size w).drew).trans (C24.mono (Below.size ((Below.refl w.heap.size w).drew)))
            refine hK.out _ _ (SB _ BB24) (fun hH25 => ?_)
            clear hK
            try simp only [Act.put, List.setIfInBounds_toArray, List.set_cons_zero, List.set_cons_succ]
            refine wpAnyH_take (i := 8) (v := ?v26) (by simp only [List.getElem?_toArray, List.getElem?_cons_zero, List.getElem?_cons_succ]; rfl) (by kernel_rfl) (by kernel_rfl) (by kernel_rfl) (by exact fun _ _ _ h => h) (Or.inl ⟨by rfl, ?h26⟩) (by assumption) ?r26
            case h26 => (intro w hSw; (try dsimp only at hSw); go_simp; try with_reducible rfl)
            try simp only [Act.put, List.setIfInBounds_toArray, List.set_cons_zero, List.set_cons_succ]
            refine wpAnyH_take (i := 9) (v := ?v27) (by simp only [List.getElem?_toArray, List.getElem?_cons_zero, List.getElem?_cons_succ]; rfl) (by kernel_rfl) (by kernel_rfl) (by kernel_rfl) (by exact fun _ _ _ h => h) (Or.inl ⟨by rfl, ?h27⟩) (by assumption) ?r27
            case h27 => (intro w hSw; (try dsimp only at hSw); go_simp; try with_reducible rfl)
            try simp only [Act.put, List.setIfInBounds_toArray, List.set_cons_zero, List.set_cons_succ]
            refine wpAnyH_take (i := 10) (v := ?v28) (by simp only [List.getElem?_toArray, List.getElem?_cons_zero, List.getElem?_cons_succ]; rfl) (by kernel_rfl) (by kernel_rfl) (by kernel_rfl) (by exact fun _ _ _ h => h) (Or.inl ⟨by rfl, ?h28⟩) (by assumption) ?r28
            case h28 => (intro w hSw; (try dsimp only at hSw); go_simp; try with_reducible rfl)
            try simp only [Act.put, List.setIfInBounds_toArray, List.set_cons_zero, List.set_cons_succ]
            refine wpAnyH_take (i := 11) (v := ?v29) (by simp only [List.getElem?_toArray, List.getElem?_cons_zero, List.getElem?_cons_succ]; rfl) (by kernel_rfl) (by kernel_rfl) (by kernel_rfl) (by exact fun _ _ _ h => h) (Or.inl ⟨by rfl, ?h29⟩) (by assumption) ?r29
            case h29 => (intro w hSw; (try dsimp only at hSw); go_simp; try with_reducible rfl)
            try simp only [Act.put, List.setIfInBounds_toArray, List.set_cons_zero, List.set_cons_succ]
            refine wpAnyH_take (i := 12) (v := ?v30) (by simp only [List.getElem?_toArray, List.getElem?_cons_zero, List.getElem?_cons_succ]; rfl) (by kernel_rfl) (by kernel_rfl) (by kernel_rfl) (by exact fun _ _ _ h => h) (Or.inl ⟨by rfl, ?h30⟩) (by assumption) ?r30
            case h30 => (intro w hSw; (try dsimp only at hSw); go_simp; try with_reducible rfl)
            try simp only [Act.put, List.setIfInBounds_toArray, List.set_cons_zero, List.set_cons_succ]
            refine wpAnyH_done (by kernel_rfl) ?_ _
            have S2 := hid (HS.out.below (BB24))
            have L2 := hid (show LStep M B w M B wq24 from LStep.of_below (BB24))
            have EN := ends_any S2.out 0
            rw [ends_zero] at EN
            have O2 := hid (owns_mono o24 (Below.size ((Below.refl w.heap.size w).drew)))
            have Y2 := hid y24
            go_wp2_with fail
            refine EN.mono ?_
            rintro e w7 ⟨rfl, Y7, Z7⟩
            have Y7H := hid Y7
            have O7 := hid (Z7.ext.owns (fun gg hg hf => by have h8 := o24.lt gg hg; have h9 : w.heap.size ≤ gg := (O2.out.lt gg hg).1; exact hf.elim (fun e => by have := HS.out.drum.ml _ e; omega) (fun e => by have := HS.out.led.bs _ e; omega)) O2.out)
            have Z7H := hid (L2.out.trans Z7)
            clear EN Y7 Z7
            go_wp2_with fail
            go_ret2
            exact ⟨some ⟨g24, 0, none⟩, 96, c24, by rw [HC.out]; rfl, by rw [HZZ.out]; exact O7.out, by rw [HZZ.out]; exact Y2.out, by rw [HL.out]; exact Y7H.out, Z7H.out⟩
        · have HC := hid (show L.lookC s k = 0 by unfold LS.lookC; rw [if_pos HIN.out, HLO.out, ht]; rfl)
          have HZ := hid (show L.lookZ s k = zs by unfold LS.lookZ; rw [HC.out, ht]; rfl)
          have HL := hid (show L.lookL s k = L by unfold LS.lookL; rw [if_neg]; rintro ⟨-, -, -, e, -⟩; rw [ht] at e; cases e)
          have CL := cloneB_any (some ta) 96 tc zs w tr t96 (fun h => by cases h) (by decide)
          have TB := hid tby
          clear h ok hH ht tr t96 tM tby
          go_enter Tryz.func76, Tryz.ntmps76
          go_wp2_with fail
          refine HA.mono ?_
          rintro e w1 ⟨rfl, rfl⟩
          clear HA HO
          go_wp2_with fail
          refine CL.mono ?_
          rintro e w2 ⟨v2, rfl, o2, B2⟩
          obtain ⟨a2, c2, rfl⟩ := owns_slice o2
          have O2 := hid o2
          have S2 := hid (HS.out.below B2)
          have L2 := hid (show LStep M B w M B w2 from LStep.of_below B2)
          clear CL o2 B2
          go_wp2_with fail
          go_ret2
          exact ⟨a2, 96, c2, by rw [HC.out]; rfl, by rw [HZ.out]; exact O2.out, by rw [HZ.out]; exact TB.out, by rw [HL.out]; exact S2.out, L2.out⟩
    · have hge : decide ((H : Int) ≤ k) = true := decide_eq_true (by omega)
      have HC := hid (show L.lookC s k = 1 by unfold LS.lookC; rw [if_neg (by rw [hH]; omega)])
      have HZ := hid (show L.lookZ s k = [] by unfold LS.lookZ; rw [HC.out]; rfl)
      have HL := hid (show L.lookL s k = L by unfold LS.lookL; rw [if_neg (by rw [hH]; omega)])
      clear h TA ok hH
      go_enter Tryz.func76, Tryz.ntmps76
      go_wp2_with fail
      refine HA.mono ?_
      rintro e w1 ⟨rfl, rfl⟩
      clear HA HO
      go_wp2_with fail
      go_ret2
      exact ⟨none, 0, 0, by rw [HC.out]; rfl, by rw [HZ.out]; exact World.ownsRow_nil _ _ _ _, nil_bytes HZ.out, by rw [HL.out]; exact HS.out, LStep.refl _ _ _⟩

end Go.Proofs.YtleoelhhndeheaaGreat
