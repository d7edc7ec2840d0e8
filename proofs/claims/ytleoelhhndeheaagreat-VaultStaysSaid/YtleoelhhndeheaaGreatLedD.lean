/- package ledger: posting -/
import Derived.Test.YtleoelhhndeheaaGreatLvs
import Derived.Test.YtleoelhhndeheaaGreatStepRow
import Derived.IntWalk
open Go Go.RowKit
namespace Go.Proofs.YtleoelhhndeheaaGreat

/-- entries whose tracks are whole and whose places are numbers -/
def EntsOk (l : List Ent) : Prop := ∀ x ∈ l, (0 ≤ x.1 ∧ x.1 < 281474976710656) ∧ x.2.length = 96
/-- the bytes of the first k entries -/
def bodyK (l : List Ent) (k : Nat) : List Int := lay2 l.length ++ (l.take k).flatMap fun x => lay2 x.1 ++ x.2
theorem bodyK_succ {l : List Ent} {k : Nat} {x : Ent} (h : l[k]? = some x) : bodyK l (k + 1) = bodyK l k ++ lay2 x.1 ++ x.2 := by
  unfold bodyK
  rw [take_succ_ent h, List.flatMap_append, ← List.append_assoc]
  simp
theorem bodyK_length {l : List Ent} (h : EntsOk l) : ∀ k, k ≤ l.length → (bodyK l k).length = 2 + 98 * k := by
  intro k
  induction k with
  | zero => intro _; simp [bodyK, lay2_length]
  | succ k ih =>
    intro hk
    have hx : l[k]? = some l[k] := List.getElem?_eq_getElem (by omega)
    rw [bodyK_succ hx, List.length_append, List.length_append, ih (by omega), lay2_length, (h _ (List.mem_of_getElem? hx)).2]
    omega
theorem bodyK_all (l : List Ent) : bodyK l l.length = bodyE l := by unfold bodyK bodyE; rw [List.take_length]
theorem leafB_length' (b : List Int) (r no : Int) (count k : Nat) (h : (cut b (k * 64) 64).length = 64) : (lay4 r ++ lay4 no ++ lay2 k ++ lay2 count ++ cut b (k * 64) 64 ++ lay4 no ++ lay4 r).length = 84 := by
  simp [lay4_length, lay2_length, h]
theorem cut_length {b : List Int} {i n : Nat} (h : i + n ≤ b.length) : (cut b i n).length = n := by unfold cut; simp; omega
theorem cut_bytes {b : List Int} (h : IsBytes b) (i n : Nat) : IsBytes (cut b i n) := (h.drop i).take n
theorem Row.cut {w : World} {b o : Nat} {zs : List Int} (h : Row w (some ⟨b, o, none⟩) (B8 zs)) (i n : Nat) : Row w (some ⟨b, o + i, none⟩) (B8 (cut zs i n)) := by
  have := (h.drop i).take n
  unfold Go.Proofs.YtleoelhhndeheaaGreat.cut B8
  rw [List.map_take, List.map_drop]
  exact this
theorem padE_length {l : List Ent} (h : EntsOk l) {count : Nat} (hc : 2 + 98 * l.length ≤ count * 64) : (padE l count).length = count * 64 := by
  have := bodyK_length h l.length (Nat.le_refl _)
  rw [bodyK_all] at this
  unfold padE
  rw [List.length_append, List.length_replicate]
  omega
theorem bodyE_bytes {l : List Ent} (h : ∀ x ∈ l, IsBytes x.2) : IsBytes (bodyE l) := by
  refine (lay2_bytes _).append fun n hn => ?_
  obtain ⟨x, hx, hn⟩ := List.mem_flatMap.1 hn
  rcases List.mem_append.1 hn with hn | hn
  · exact lay2_bytes _ _ hn
  · exact h x hx _ hn
theorem padE_bytes {l : List Ent} (h : ∀ x ∈ l, IsBytes x.2) (count : Nat) : IsBytes (padE l count) :=
  (bodyE_bytes h).append fun n hn => by rw [List.eq_of_mem_replicate hn]; decide
theorem postN_eq {n : Nat} (h : 0 < n) : leavesN n = ((2 + n * 98 + 63) / 64 : Nat) := by
  unfold leavesN
  rw [if_neg (by omega)]
  omega
theorem EntsAt.bytes {w : World} {N : Nat → Prop} {a : Option Addr} {n : Nat} {l : List Ent} (h : EntsAt w N a n l) : ∀ x ∈ l, IsBytes x.2 := by
  intro x hx
  obtain ⟨i, hi⟩ := List.getElem?_of_mem hx
  obtain ⟨b, c, -, -, -, h4, -⟩ := h.c1 i x hi
  exact h4
theorem iP : (Tryz.prog.info? 27).map (fun i => (i.zero, i.size, i.bytes)) = some (some (.slice none 0 0), 1, 24) := by kernel_rfl

set_option maxRecDepth 100000 in
set_option maxHeartbeats 8000000 in
theorem posting_any (r no : Int) (a : Option Addr) (n cap : Nat) (l : List Ent) (N : Nat → Prop) (w : World) (h : EntsAt w N a n l) (hok : EntsOk l) (h0 : 0 < n) (hn : n ≤ 100000) (hr : 0 ≤ r ∧ r < 281474976710656) (hno : 0 ≤ no ∧ no < 281474976710656) :
    Calls Tryz.prog 98 #[.int .i64 r, .int .i64 no, .slice a n cap] w fun e w' => ∃ v, e = .returned v ∧ LvsAt w' w.heap.size v (postL r no l) ∧ Below w.heap.size w w' := by
  obtain ⟨i0, hi, hz0, hz1, hz2⟩ := info_parts iB
  obtain ⟨ip, hip, hpz0, hpz1, hpz2⟩ := info_parts iP
  have HH := hid h
  have HOK := hid hok
  have hix := fun k (hk : k < n) => h.idx (cap := cap) hk
  have HL := hid h.len
  have HBY := hid h.bytes
  obtain ⟨count, hcount, hc1, hc2⟩ : ∃ count : Nat, leavesN (n : Int) = (count : Int) ∧ 2 + 98 * n ≤ count * 64 ∧ count ≤ 200000 := ⟨(2 + n * 98 + 63) / 64, postN_eq h0, by omega, by omega⟩
  have hpn : postN l = count := by unfold postN; rw [h.len, hcount]; rfl
  have hPL : postL r no l = (List.range count).map (leafB r no (padE l count) count) := by unfold postL; rw [hpn]
  have HPL := hid hPL
  have HPD := hid (padE_length hok (count := count) (by rw [h.len]; exact hc1))
  have HPB := hid (padE_bytes h.bytes count)
  have HBN := hid (show (bodyK l n).length = 2 + 98 * n from bodyK_length hok n (by rw [h.len]; exact Nat.le_refl _))
  have HBE := hid (show bodyK l n = bodyE l by rw [← h.len]; exact bodyK_all l)
  have hp24 : ip.bytes ≤ 24 := by omega
  have LV := fun W => leaves_any (n : Int) W (by omega)
  rw [hcount] at LV
  clear hPL hpn h hok hcount
  have HSW1 : ∀ k : Nat, k ≤ 200000 → IntKind.i64.wrap ((k : Int) + 1) = (k : Int) + 1 := fun k h => IntWalk.i64_in _ (by omega)
  have HSW2 : ∀ k : Nat, k ≤ 200000 → IntKind.i64.wrap ((k : Int) * 64) = (k : Int) * 64 := fun k h => IntWalk.i64_in _ (by omega)
  have HSW3 : ∀ k : Nat, k ≤ 200000 → IntKind.i64.wrap (((k : Int) + 1) * 64) = ((k : Int) + 1) * 64 := fun k h => IntWalk.i64_in _ (by omega)
  have HTN1 : ∀ k : Nat, ((k : Int) * 64).toNat = k * 64 := fun k => by omega
  have HTN2 : ∀ k : Nat, (((k : Int) + 1) * 64).toNat = (k + 1) * 64 := fun k => by omega
  have HLN : ∀ k : Nat, (k + 1) * 64 - k * 64 = 64 := fun k => by omega
  go_enter Tryz.func98, Tryz.ntmps98
  go_wp2_with fail
  refine (laid2_any (n : Int) w (by omega)).mono ?_
  rintro e w1 ⟨v1, rfl, o1, B1⟩
  go_wp2_with fail
  go_loopw [7, 19] (fun v i wr => ∃ (k : Nat) (o : Value), o = v ∧ i = .int .i64 k ∧ k ≤ n ∧ wr.ownsRow w.heap.size 5 1 o (2 + 98 * k) (B8 (bodyK l k)) ∧ Below w.heap.size w wr) (fun _ i _ => n - (intOf i).toNat)
  case atStart => exact ⟨0, _, rfl, rfl, Nat.zero_le _, by rw [show bodyK l 0 = lay2 (n : Int) by unfold bodyK; rw [HL.out]; simp]; exact o1, B1⟩
  case round =>
    obtain ⟨k, vb, rfl, rfl, hk, OB, BR⟩ := hrel
    have szr := BR.size
    by_cases hlt : k < n
    · have hixk := hix k hlt
      obtain ⟨⟨xa, xz⟩, hx⟩ : ∃ x, l[k]? = some x := ⟨_, List.getElem?_eq_getElem (by rw [HL.out]; exact hlt)⟩
      have E := HH.out.below BR (Nat.le_refl _)
      have e0 := E.c0 k _ hx
      obtain ⟨b, c, e1, hrb, hnb, hbb, -⟩ := E.c1 k _ hx
      obtain ⟨hxa, hxz⟩ := HOK.out _ (List.mem_of_getElem? hx)
      simp only at e0 e1 hrb hnb hbb hxa hxz
      rw [hxz] at e1
      have hbn : b = none → 96 = 0 := fun e => by have := (hnb e).1; rw [this] at hxz; simp at hxz
      have HXZ := hid hxz
      have HSU := hid (bodyK_succ hx)
      have HLK := hid (bodyK_length HOK.out k (by rw [HL.out]; omega))
      have HLK1 := hid (bodyK_length HOK.out (k + 1) (by rw [HL.out]; omega))
      obtain ⟨ab, cb, rfl, -, hcb, -, rb, -, nb⟩ := row_of_owns OB
      clear hx hxz E hnb
      obtain ⟨W1, hW1⟩ : ∃ W1, wr.alloc (.cells #[.int .i64 xa, .slice b 96 c] 100) = W1 := ⟨_, rfl⟩
      have BW1 : Below wr.heap.size wr W1 := by rw [← hW1]; exact (Below.refl _ _).alloc (Nat.le_refl _) _
      have x1 : W1.heap[wr.heap.size]? = some (.cells #[.int .i64 xa, .slice b 96 c] 100 (0, 0)) := by rw [← hW1]; exact blk_new _ _
      obtain ⟨xb, hxb⟩ : ∃ xb, wr.heap.size = xb := ⟨_, rfl⟩
      rw [hxb] at x1
      have lxb : xb < W1.heap.size := lt_of_blk x1
      have y0 : W1.cell? ⟨xb, 0, none⟩ = some (.int .i64 xa) := blk_cell x1 rfl
      have y1 : W1.cell? ⟨xb, 1, none⟩ = some (.slice b 96 c) := blk_cell x1 rfl
      have hrb1 := hrb.below BW1 (Nat.le_refl _)
      have rb1 := rb.below BW1 (Nat.le_refl _)
      have BX := BR.trans (BW1.mono szr)
      clear x1 hrb rb
      have SB : ∀ W, Below W1.heap.size W1 W → Below W1.heap.size W1 W ∧ W.cell? ⟨xb, 0, none⟩ = some (.int .i64 xa) ∧ W.cell? ⟨xb, 1, none⟩ = some (.slice b 96 c) := fun W h => ⟨h, Below.cellAt h lxb y0, Below.cellAt h lxb y1⟩
      go_wp2_with fail
      refine wp_region_held_drew (S := fun w' => Below W1.heap.size W1 w' ∧ w'.cell? ⟨xb, 0, none⟩ = some (.int .i64 xa) ∧ w'.cell? ⟨xb, 1, none⟩ = some (.slice b 96 c)) (by kernel_rfl) (SB _ ((Below.refl W1.heap.size W1).drew)) (fun hHeld => ?_)
      refine wpAnyH_take (i := 0) (v := ?v1) (by simp only [List.getElem?_toArray, List.getElem?_cons_zero]; rfl) (by kernel_rfl) (by kernel_rfl) (by kernel_rfl) (by exact fun _ _ _ h => h) (Or.inl ⟨by rfl, ?h1⟩) (by assumption) ?r1
      case h1 => (intro w hSw; (try dsimp only at hSw); go_simp; try with_reducible rfl)
      try simp only [Act.put, List.setIfInBounds_toArray, List.set_cons_zero, List.set_cons_succ]
      refine wpAnyH_take (i := 1) (v := ?v2) (by simp only [List.getElem?_toArray, List.getElem?_cons_zero, List.getElem?_cons_succ]; rfl) (by kernel_rfl) (by kernel_rfl) (by kernel_rfl) (by exact fun _ _ _ h => h) (Or.inl ⟨by rfl, ?h2⟩) (by assumption) ?r2
      case h2 => (intro w hSw; (try dsimp only at hSw); go_simp; try with_reducible rfl)
      try simp only [Act.put, List.setIfInBounds_toArray, List.set_cons_zero, List.set_cons_succ]
      refine wpAnyH_take (i := 2) (v := ?v3) (by simp only [List.getElem?_toArray, List.getElem?_cons_zero, List.getElem?_cons_succ]; rfl) (by kernel_rfl) (by kernel_rfl) (by kernel_rfl) (by exact fun _ _ _ h => h) (Or.inl ⟨by rfl, ?h3⟩) (by assumption) ?r3
      case h3 => (intro w hSw; (try dsimp only at hSw); go_simp; try with_reducible rfl)
      try simp only [Act.put, List.setIfInBounds_toArray, List.set_cons_zero, List.set_cons_succ]
      refine wpAnyH_take (i := 4) (v := ?v4) (by simp only [List.getElem?_toArray, List.getElem?_cons_zero, List.getElem?_cons_succ]; rfl) (by kernel_rfl) (by kernel_rfl) (by kernel_rfl) (by exact fun _ _ _ h => h) (Or.inl ⟨by rfl, ?h4⟩) (by assumption) ?r4
      case h4 => (intro w hSw; (try dsimp only at hSw); go_simp; try with_reducible rfl)
      try simp only [Act.put, List.setIfInBounds_toArray, List.set_cons_zero, List.set_cons_succ]
      refine wpAnyH_take (i := 5) (v := ?v5) (by simp only [List.getElem?_toArray, List.getElem?_cons_zero, List.getElem?_cons_succ]; rfl) (by kernel_rfl) (by kernel_rfl) (by kernel_rfl) (by exact fun _ _ _ h => h) (Or.inl ⟨by rfl, ?h5⟩) (by assumption) ?r5
      case h5 => (intro w hSw; (try dsimp only at hSw); go_simp; try with_reducible rfl)
      try simp only [Act.put, List.setIfInBounds_toArray, List.set_cons_zero, List.set_cons_succ]
      refine wpAnyH_ready (rs := [3]) (by kernel_rfl) (by simp) ?_
      refine (AllReadyH.cons (by simp only [List.getElem?_toArray, List.getElem?_cons_zero, List.getElem?_cons_succ]; rfl) (fun K hK => ?_) AllReadyH.nil)
      go_simp
      go_at_call 113
      refine (laid2_any xa _ hxa).mono ?_
      rintro e wq6 ⟨v6, rfl, o6, C6⟩
      obtain ⟨a6, c6, rfl, -, -, -, r6, -, n6⟩ := row_of_owns o6
      have BB6 := ((Below.refl W1.heap.size W1).drew).trans (C6.mono (Below.size ((Below.refl W1.heap.size W1).drew)))
      refine hK.out _ _ (SB _ BB6) (fun hH7 => ?_)
      clear hK
      try simp only [Act.put, List.setIfInBounds_toArray, List.set_cons_zero, List.set_cons_succ]
      refine wpAnyH_ready (rs := [6]) (by kernel_rfl) (by simp) ?_
      refine (AllReadyH.cons (by simp only [List.getElem?_toArray, List.getElem?_cons_zero, List.getElem?_cons_succ]; rfl) (fun K hK => ?_) AllReadyH.nil)
      go_simp
      have BB8 := (BB6).alloc (Below.size (BB6)) (.cells #[.slice ab (2 + 98 * k) cb, .slice a6 2 c6, .slice b 96 c] 27)
      refine hK.out _ _ (SB _ BB8) (fun hH9 => ?_)
      clear hK
      try simp only [Act.put, List.setIfInBounds_toArray, List.set_cons_zero, List.set_cons_succ]
      refine wpAnyH_ready (rs := [7]) (by kernel_rfl) (by simp) ?_
      refine (AllReadyH.cons (by simp only [List.getElem?_toArray, List.getElem?_cons_zero, List.getElem?_cons_succ]; rfl) (fun K hK => ?_) AllReadyH.nil)
      have HRCC : Row (wq6.alloc (.cells #[.slice ab (2 + 98 * k) cb, .slice a6 2 c6, .slice b 96 c] 27)) (some ⟨wq6.heap.size, 0, none⟩) (#[.slice ab (2 + 98 * k) cb, .slice a6 2 c6, .slice b 96 c] : Array Value).toList := row_at wq6 #[.slice ab (2 + 98 * k) cb, .slice a6 2 c6, .slice b 96 c] 27 (by simp)
      have CC := concat_any (some ⟨wq6.heap.size, 0, none⟩) 3 3 [⟨ab, cb, bodyK l k⟩, ⟨a6, c6, lay2 xa⟩, ⟨b, c, xz⟩] (wq6.alloc (.cells #[.slice ab (2 + 98 * k) cb, .slice a6 2 c6, .slice b 96 c] 27)) (by rw [show List.map Pt.val [⟨ab, cb, bodyK l k⟩, ⟨a6, c6, lay2 xa⟩, ⟨b, c, xz⟩] = (#[.slice ab (2 + 98 * k) cb, .slice a6 2 c6, .slice b 96 c] : Array Value).toList by simp [Pt.val, HLK.out, lay2_length, HXZ.out]]; exact HRCC) rfl (by decide) (by
          intro p hp
          simp only [List.mem_cons, List.mem_nil_iff, or_false] at hp
          rcases hp with rfl | rfl | rfl
          · exact pt_ok ((((Row.keep rb1 (w' := W1.drew) (fun _ => rfl))).below C6 (Nat.le_refl _)).alloc (.cells #[.slice ab (2 + 98 * k) cb, .slice a6 2 c6, .slice b 96 c] 27)) HLK.out (by omega) nb
          · exact pt_ok ((r6).alloc (.cells #[.slice ab (2 + 98 * k) cb, .slice a6 2 c6, .slice b 96 c] 27)) rfl (by first | decide | exact Nat.succ_pos _) n6
          · exact pt_ok ((((Row.keep hrb1 (w' := W1.drew) (fun _ => rfl))).below C6 (Nat.le_refl _)).alloc (.cells #[.slice ab (2 + 98 * k) cb, .slice a6 2 c6, .slice b 96 c] 27)) HXZ.out (by decide) hbn) (by simp [flat, HLK.out, lay2_length, HXZ.out]; try omega)
      rw [show flat [⟨ab, cb, bodyK l k⟩, ⟨a6, c6, lay2 xa⟩, ⟨b, c, xz⟩] = bodyK l (k + 1) by rw [HSU.out]; simp [flat], HLK1.out] at CC
      clear HRCC
      go_simp
      go_at_call 66
      refine (CC).mono ?_
      rintro e wq10 ⟨v10, rfl, o10, C10⟩
      clear CC
      have BB10 := (BB8).trans (C10.mono (Below.size (BB8)))
      refine hK.out _ _ (SB _ BB10) (fun hH11 => ?_)
      clear hK
      try simp only [Act.put, List.setIfInBounds_toArray, List.set_cons_zero, List.set_cons_succ]
      refine wpAnyH_take (i := 8) (v := ?v12) (by simp only [List.getElem?_toArray, List.getElem?_cons_zero, List.getElem?_cons_succ]; rfl) (by kernel_rfl) (by kernel_rfl) (by kernel_rfl) (by exact fun _ _ _ h => h) (Or.inl ⟨by rfl, ?h12⟩) (by assumption) ?r12
      case h12 => (intro w hSw; (try dsimp only at hSw); go_simp; try with_reducible rfl)
      try simp only [Act.put, List.setIfInBounds_toArray, List.set_cons_zero, List.set_cons_succ]
      refine wpAnyH_done (by kernel_rfl) ?_ _
      have BE := BX.trans (BB10.mono (Nat.le_trans szr BW1.size))
      have SE := (BX.trans (BB8.mono (Nat.le_trans szr BW1.size))).size
      go_wp2_with fail
      go_roundw
      case measure => simp [intOf]; omega
      case rel => exact ⟨k + 1, _, rfl, by go_num, by omega, owns_mono o10 (by have := SE; simpa using this), BE⟩
    · obtain rfl : n = k := by omega
      obtain ⟨m, hm⟩ : ∃ m : Nat, m + (2 + 98 * n) = count * 64 := ⟨count * 64 - (2 + 98 * n), by omega⟩
      have OB2 := OB
      obtain ⟨ab, cb, rfl⟩ := owns_slice OB2
      obtain ⟨v2, w2, hr2, o2, g2⟩ := run_appendZ (P := Tryz.prog) wr w.heap.size 27 3 27 5 i0 (.int .u8 0) 1 Tryz.underlying27 Tryz.underlying3 hi hz0 hz1 hz2 rfl rfl (by decide) (.slice ab (2 + 98 * n) cb) (2 + 98 * n) _ OB2 .i64 m (by omega) szr
      have e : ((m : Nat) : Int) = (count : Int) * 64 - (2 + 98 * (n : Int)) := by omega
      rw [e] at hr2
      have B2 : Below w.heap.size w w2 := BR.grown g2 szr (by intro q hq; exact (OB2.lt _ hq).1)
      have s2 := B2.size
      have o2' : w2.ownsRow w.heap.size 5 1 v2 (count * 64) (B8 (padE l count)) := by
        have e1 : B8 (bodyK l n) ++ List.replicate m (.int .u8 0) = B8 (padE l count) := by
          unfold padE
          rw [HBE.out, B8, B8, List.map_append, List.map_replicate, ← HBE.out, HBN.out, show count * 64 - (2 + 98 * n) = m by omega]
        rw [e1, show 2 + 98 * n + m = count * 64 by omega] at o2
        exact o2
      obtain ⟨a2, c2, rfl, -, hc2', hm2, r2, d2, n2⟩ := row_of_owns o2'
      have hc3 : count * 64 ≤ c2 := hc2'
      unfold maxLen at hm2
      obtain ⟨gb, hgb⟩ : ∃ gb, a2 = some ⟨gb, 0, none⟩ := by
        obtain ⟨g, c', e8, -⟩ := owns_some o2' (by omega)
        cases e8
        exact ⟨g, rfl⟩
      subst hgb
      clear o2 o2' g2 e hm n2 d2
      go_wp2_with fail
      refine (LV _).mono ?_
      rintro e w3 ⟨rfl, rfl⟩
      go_wp2_with (at_builtin; refine Lib.wpList_append_run _ rfl _ _ 27 3 rfl _ _ rfl rfl _ w2 hr2 ?_)
      go_wp2_with fail
      go_loopw [11, 43] (fun v i wr => ∃ (k : Nat) (o : Value), o = v ∧ i = .int .i64 k ∧ k ≤ count ∧ Hid (LvsAt wr w2.heap.size o ((List.range k).map (leafB r no (padE l count) count))) ∧ Below w2.heap.size w2 wr) (fun _ i _ => count - (intOf i).toNat)
      case atStart => exact ⟨0, _, rfl, rfl, Nat.zero_le _, hid (LvsAt.nil _ _), Below.refl _ _⟩
      case round =>
        obtain ⟨k, vo, rfl, rfl, hk2, LO, BK⟩ := hrel
        have szk := BK.size
        by_cases hltc : k < count
        · have rk := r2.below BK (Nat.le_refl _)
          have HCL := hid (cut_length (b := padE l count) (i := k * 64) (n := 64) (by rw [HPD.out]; omega))
          have HCB := hid (cut_bytes HPB.out (k * 64) 64)
          have rcut := rk.cut (k * 64) 64
          rw [Nat.zero_add] at rcut
          have sw1 := HSW1 k (by omega)
          have sw2 := HSW2 k (by omega)
          have sw3 := HSW3 k (by omega)
          have tn1 := HTN1 k
          have tn2 := HTN2 k
          have ln := HLN k
          have qq1 : (0 : Int) ≤ (k : Int) * 64 := by omega
          have qq2 : (k : Int) * 64 ≤ ((k : Int) + 1) * 64 := by omega
          have qq3 : ((k : Int) + 1) * 64 ≤ (c2 : Int) := by omega
          have qq4 : (0 : Int) ≤ ((k : Int) + 1) * 64 := by omega
          have qq5 : (k : Int) ≤ (k : Int) + 1 := by omega
          have qq6 : ¬ (c2 = k * 64) := by omega
          have SW := hid (And.intro sw1 (And.intro sw2 (And.intro sw3 (And.intro tn1 (And.intro tn2 ln)))))
          clear sw1 sw2 sw3 tn1 tn2 ln
          have BQ : Below w.heap.size w wr := B2.trans (BK.mono s2)
          go_wp2_with fail
          refine (laid4_any r _ hr).mono ?_
          rintro e wa ⟨va, rfl, oa, Ba⟩
          go_wp2_with fail
          refine (laid4_any no _ hno).mono ?_
          rintro e wb ⟨vb', rfl, ob, Bb⟩
          go_wp2_with fail
          refine (laid2_any (k : Int) _ (by omega)).mono ?_
          rintro e wc ⟨vc, rfl, oc, Bc⟩
          go_wp2_with fail
          refine (laid2_any (count : Int) _ (by omega)).mono ?_
          rintro e wd ⟨vd, rfl, od, Bd⟩
          obtain ⟨aa, ca, rfl, -, -, -, ra, -, na⟩ := row_of_owns oa
          obtain ⟨ab', cb', rfl, -, -, -, rb, -, nb⟩ := row_of_owns ob
          obtain ⟨ac, cc, rfl, -, -, -, rc, -, nc⟩ := row_of_owns oc
          obtain ⟨ad, cd, rfl, -, -, -, rd, -, nd⟩ := row_of_owns od
          have BA : Below wr.heap.size wr wd := ((Ba.trans (Bb.mono Ba.size)).trans (Bc.mono (Ba.trans (Bb.mono Ba.size)).size)).trans (Bd.mono (((Ba.trans (Bb.mono Ba.size)).trans (Bc.mono (Ba.trans (Bb.mono Ba.size)).size))).size)
          have ra' := ((ra.below Bb (Nat.le_refl _)).below Bc (Nat.le_refl _)).below Bd (Nat.le_refl _)
          have rb' := (rb.below Bc (Nat.le_refl _)).below Bd (Nat.le_refl _)
          have rc' := rc.below Bd (Nat.le_refl _)
          clear oa ob oc od ra rb rc Ba Bb Bc Bd
          have BA1 := BA.alloc BA.size (.cells #[.slice aa 4 ca, .slice ab' 4 cb', .slice ac 2 cc, .slice ad 2 cd] 27)
          have HRCC : Row (wd.alloc (.cells #[.slice aa 4 ca, .slice ab' 4 cb', .slice ac 2 cc, .slice ad 2 cd] 27)) (some ⟨wd.heap.size, 0, none⟩) (#[.slice aa 4 ca, .slice ab' 4 cb', .slice ac 2 cc, .slice ad 2 cd] : Array Value).toList := row_new wd _ 27
          have CC := concat_any (some ⟨wd.heap.size, 0, none⟩) 4 4 [⟨aa, ca, lay4 r⟩, ⟨ab', cb', lay4 no⟩, ⟨ac, cc, lay2 (k : Int)⟩, ⟨ad, cd, lay2 (count : Int)⟩] (wd.alloc (.cells #[.slice aa 4 ca, .slice ab' 4 cb', .slice ac 2 cc, .slice ad 2 cd] 27)) (by rw [show List.map Pt.val [⟨aa, ca, lay4 r⟩, ⟨ab', cb', lay4 no⟩, ⟨ac, cc, lay2 (k : Int)⟩, ⟨ad, cd, lay2 (count : Int)⟩] = (#[.slice aa 4 ca, .slice ab' 4 cb', .slice ac 2 cc, .slice ad 2 cd] : Array Value).toList by simp [Pt.val, lay4_length, lay2_length]]; exact HRCC) rfl (by decide) (by
              intro p hp
              simp only [List.mem_cons, List.mem_nil_iff, or_false] at hp
              rcases hp with rfl | rfl | rfl | rfl
              · exact pt_ok (ra'.alloc _) rfl (by first | decide | exact Nat.succ_pos _) na
              · exact pt_ok (rb'.alloc _) rfl (by first | decide | exact Nat.succ_pos _) nb
              · exact pt_ok (rc'.alloc _) rfl (by first | decide | exact Nat.succ_pos _) nc
              · exact pt_ok (rd.alloc _) rfl (by first | decide | exact Nat.succ_pos _) nd) (by simp [flat, lay4_length, lay2_length]; try omega)
          rw [show flat [⟨aa, ca, lay4 r⟩, ⟨ab', cb', lay4 no⟩, ⟨ac, cc, lay2 (k : Int)⟩, ⟨ad, cd, lay2 (count : Int)⟩] = lay4 r ++ lay4 no ++ lay2 (k : Int) ++ lay2 (count : Int) by simp [flat], show (lay4 r ++ lay4 no ++ lay2 (k : Int) ++ lay2 (count : Int)).length = 12 from rfl] at CC
          clear HRCC
          go_wp2_with fail
          refine CC.mono ?_
          rintro e we ⟨ve, rfl, oe, Be⟩
          obtain ⟨ae, ce, rfl, -, -, -, re, -, ne⟩ := row_of_owns oe
          have BE := BA1.trans (Be.mono BA1.size)
          clear CC ra' rb' rc' rd na nb nc nd BA BA1 oe Be
          have rcut := rcut.below BE (Nat.le_refl _)
          have LO := hid (LO.out.below BE (Nat.le_refl _))
          have BK := BK.trans (BE.mono BK.size)
          have szk2 := BE.size
          clear BE rk
          obtain ⟨sw1, sw2, sw3, tn1, tn2, ln⟩ := SW.out
          have SB : ∀ W, Below w2.heap.size w2 W → Below w2.heap.size w2 W ∧ True := fun W h => ⟨h, trivial⟩
          go_wp2_with fail
          refine wp_region_held_drew (S := fun w' => Below w2.heap.size w2 w' ∧ True) (by kernel_rfl) (SB _ ((BK).drew)) (fun hHeld => ?_)
          refine wpAnyH_take (i := 0) (v := ?v13) (by simp only [List.getElem?_toArray, List.getElem?_cons_zero]; rfl) (by kernel_rfl) (by kernel_rfl) (by kernel_rfl) (by exact fun _ _ _ h => h) (Or.inl ⟨by rfl, ?h13⟩) (by assumption) ?r13
          case h13 => (intro w hSw; (try dsimp only at hSw); go_simp; try with_reducible rfl)
          try simp only [Act.put, List.setIfInBounds_toArray, List.set_cons_zero, List.set_cons_succ]
          refine wpAnyH_take (i := 1) (v := ?v14) (by simp only [List.getElem?_toArray, List.getElem?_cons_zero, List.getElem?_cons_succ]; rfl) (by kernel_rfl) (by kernel_rfl) (by kernel_rfl) (by exact fun _ _ _ h => h) (Or.inl ⟨by rfl, ?h14⟩) (by assumption) ?r14
          case h14 => (intro w hSw; (try dsimp only at hSw); go_simp; try with_reducible rfl)
          try simp only [Act.put, List.setIfInBounds_toArray, List.set_cons_zero, List.set_cons_succ]
          refine wpAnyH_take (i := 2) (v := ?v15) (by simp only [List.getElem?_toArray, List.getElem?_cons_zero, List.getElem?_cons_succ]; rfl) (by kernel_rfl) (by kernel_rfl) (by kernel_rfl) (by exact fun _ _ _ h => h) (Or.inl ⟨by rfl, ?h15⟩) (by assumption) ?r15
          case h15 => (intro w hSw; (try dsimp only at hSw); go_simp; try with_reducible rfl)
          try simp only [Act.put, List.setIfInBounds_toArray, List.set_cons_zero, List.set_cons_succ]
          refine wpAnyH_take (i := 3) (v := ?v16) (by simp only [List.getElem?_toArray, List.getElem?_cons_zero, List.getElem?_cons_succ]; rfl) (by kernel_rfl) (by kernel_rfl) (by kernel_rfl) (by exact fun _ _ _ h => h) (Or.inl ⟨by rfl, ?h16⟩) (by assumption) ?r16
          case h16 => (intro w hSw; (try dsimp only at hSw); go_simp; try with_reducible rfl)
          try simp only [Act.put, List.setIfInBounds_toArray, List.set_cons_zero, List.set_cons_succ]
          refine wpAnyH_take (i := 4) (v := ?v17) (by simp only [List.getElem?_toArray, List.getElem?_cons_zero, List.getElem?_cons_succ]; rfl) (by kernel_rfl) (by kernel_rfl) (by kernel_rfl) (by exact fun _ _ _ h => h) (Or.inl ⟨by rfl, ?h17⟩) (by assumption) ?r17
          case h17 => (intro w hSw; (try dsimp only at hSw); go_simp; try with_reducible rfl)
          try simp only [Act.put, List.setIfInBounds_toArray, List.set_cons_zero, List.set_cons_succ]
          refine wpAnyH_take (i := 5) (v := ?v18) (by simp only [List.getElem?_toArray, List.getElem?_cons_zero, List.getElem?_cons_succ]; rfl) (by kernel_rfl) (by kernel_rfl) (by kernel_rfl) (by exact fun _ _ _ h => h) (Or.inl ⟨by rfl, ?h18⟩) (by assumption) ?r18
          case h18 => (intro w hSw; (try dsimp only at hSw); go_simp; try with_reducible rfl)
          try simp only [Act.put, List.setIfInBounds_toArray, List.set_cons_zero, List.set_cons_succ]
          refine wpAnyH_take (i := 6) (v := ?v19) (by simp only [List.getElem?_toArray, List.getElem?_cons_zero, List.getElem?_cons_succ]; rfl) (by kernel_rfl) (by kernel_rfl) (by kernel_rfl) (by exact fun _ _ _ h => h) (Or.inl ⟨by rfl, ?h19⟩) (by assumption) ?r19
          case h19 => (intro w hSw; (try dsimp only at hSw); go_simp; try with_reducible rfl)
          try simp only [Act.put, List.setIfInBounds_toArray, List.set_cons_zero, List.set_cons_succ]
          refine wpAnyH_take (i := 7) (v := ?v20) (by simp only [List.getElem?_toArray, List.getElem?_cons_zero, List.getElem?_cons_succ]; rfl) (by kernel_rfl) (by kernel_rfl) (by kernel_rfl) (by exact fun _ _ _ h => h) (Or.inl ⟨by rfl, ?h20⟩) (by assumption) ?r20
          case h20 => (intro w hSw; (try dsimp only at hSw); go_simp; try with_reducible rfl)
          try simp only [Act.put, List.setIfInBounds_toArray, List.set_cons_zero, List.set_cons_succ]
          refine wpAnyH_take (i := 8) (v := ?v21) (by simp only [List.getElem?_toArray, List.getElem?_cons_zero, List.getElem?_cons_succ]; rfl) (by kernel_rfl) (by kernel_rfl) (by kernel_rfl) (by exact fun _ _ _ h => h) (Or.inl ⟨by rfl, ?h21⟩) (by assumption) ?r21
          case h21 => (intro w hSw; (try dsimp only at hSw); go_simp; try with_reducible rfl)
          try simp only [Act.put, List.setIfInBounds_toArray, List.set_cons_zero, List.set_cons_succ]
          refine wpAnyH_take (i := 9) (v := ?v22) (by simp only [List.getElem?_toArray, List.getElem?_cons_zero, List.getElem?_cons_succ]; rfl) (by kernel_rfl) (by kernel_rfl) (by kernel_rfl) (by exact fun _ _ _ h => h) (Or.inl ⟨by rfl, ?h22⟩) (by assumption) ?r22
          case h22 => (intro w hSw; (try dsimp only at hSw); go_simp; try with_reducible rfl)
          try simp only [Act.put, List.setIfInBounds_toArray, List.set_cons_zero, List.set_cons_succ]
          refine wpAnyH_take (i := 11) (v := ?v23) (by simp only [List.getElem?_toArray, List.getElem?_cons_zero, List.getElem?_cons_succ]; rfl) (by kernel_rfl) (by kernel_rfl) (by kernel_rfl) (by exact fun _ _ _ h => h) (Or.inl ⟨by rfl, ?h23⟩) (by assumption) ?r23
          case h23 => (intro w hSw; (try dsimp only at hSw); go_simp; try with_reducible rfl)
          try simp only [Act.put, List.setIfInBounds_toArray, List.set_cons_zero, List.set_cons_succ]
          refine wpAnyH_ready (rs := [10]) (by kernel_rfl) (by simp) ?_
          refine (AllReadyH.cons (by simp only [List.getElem?_toArray, List.getElem?_cons_zero, List.getElem?_cons_succ]; rfl) (fun K hK => ?_) AllReadyH.nil)
          go_simp
          go_at_call 113
          refine (laid4_any no _ hno).mono ?_
          rintro e wq24 ⟨v24, rfl, o24, C24⟩
          obtain ⟨a24, c24, rfl, -, -, -, r24, -, n24⟩ := row_of_owns o24
          have BB24 := ((BK).drew).trans (C24.mono (Below.size ((BK).drew)))
          refine hK.out _ _ (SB _ BB24) (fun hH25 => ?_)
          clear hK
          try simp only [Act.put, List.setIfInBounds_toArray, List.set_cons_zero, List.set_cons_succ]
          refine wpAnyH_ready (rs := [12]) (by kernel_rfl) (by simp) ?_
          refine (AllReadyH.cons (by simp only [List.getElem?_toArray, List.getElem?_cons_zero, List.getElem?_cons_succ]; rfl) (fun K hK => ?_) AllReadyH.nil)
          go_simp
          go_at_call 113
          refine (laid4_any r _ hr).mono ?_
          rintro e wq26 ⟨v26, rfl, o26, C26⟩
          obtain ⟨a26, c26, rfl, -, -, -, r26, -, n26⟩ := row_of_owns o26
          have BB26 := (BB24).trans (C26.mono (Below.size (BB24)))
          refine hK.out _ _ (SB _ BB26) (fun hH27 => ?_)
          clear hK
          try simp only [Act.put, List.setIfInBounds_toArray, List.set_cons_zero, List.set_cons_succ]
          refine wpAnyH_ready (rs := [13]) (by kernel_rfl) (by simp) ?_
          refine (AllReadyH.cons (by simp only [List.getElem?_toArray, List.getElem?_cons_zero, List.getElem?_cons_succ]; rfl) (fun K hK => ?_) AllReadyH.nil)
          go_simp
          have BB28 := (BB26).alloc (Below.size (BB26)) (.cells #[.slice ae 12 ce, .slice (some ⟨gb, k * 64, none⟩) 64 (c2 - k * 64), .slice a24 4 c24, .slice a26 4 c26] 27)
          refine hK.out _ _ (SB _ BB28) (fun hH29 => ?_)
          clear hK
          try simp only [Act.put, List.setIfInBounds_toArray, List.set_cons_zero, List.set_cons_succ]
          refine wpAnyH_ready (rs := [14]) (by kernel_rfl) (by simp) ?_
          refine (AllReadyH.cons (by simp only [List.getElem?_toArray, List.getElem?_cons_zero, List.getElem?_cons_succ]; rfl) (fun K hK => ?_) AllReadyH.nil)
          have HRCC : Row (wq26.alloc (.cells #[.slice ae 12 ce, .slice (some ⟨gb, k * 64, none⟩) 64 (c2 - k * 64), .slice a24 4 c24, .slice a26 4 c26] 27)) (some ⟨wq26.heap.size, 0, none⟩) (#[.slice ae 12 ce, .slice ((some ⟨gb, k * 64, none⟩)) 64 (c2 - k * 64), .slice a24 4 c24, .slice a26 4 c26] : Array Value).toList := row_at wq26 #[.slice ae 12 ce, .slice (some ⟨gb, k * 64, none⟩) 64 (c2 - k * 64), .slice a24 4 c24, .slice a26 4 c26] 27 (by simp)
          have CC := concat_any (some ⟨wq26.heap.size, 0, none⟩) 4 4 [⟨ae, ce, (lay4 r ++ lay4 no ++ lay2 (k : Int) ++ lay2 (count : Int))⟩, ⟨(some ⟨gb, k * 64, none⟩), (c2 - k * 64), cut (padE l count) (k * 64) 64⟩, ⟨a24, c24, lay4 no⟩, ⟨a26, c26, lay4 r⟩] (wq26.alloc (.cells #[.slice ae 12 ce, .slice (some ⟨gb, k * 64, none⟩) 64 (c2 - k * 64), .slice a24 4 c24, .slice a26 4 c26] 27)) (by rw [show List.map Pt.val [⟨ae, ce, (lay4 r ++ lay4 no ++ lay2 (k : Int) ++ lay2 (count : Int))⟩, ⟨(some ⟨gb, k * 64, none⟩), (c2 - k * 64), cut (padE l count) (k * 64) 64⟩, ⟨a24, c24, lay4 no⟩, ⟨a26, c26, lay4 r⟩] = (#[.slice ae 12 ce, .slice ((some ⟨gb, k * 64, none⟩)) 64 (c2 - k * 64), .slice a24 4 c24, .slice a26 4 c26] : Array Value).toList by simp [Pt.val, lay4_length, lay2_length, HCL.out]]; exact HRCC) rfl (by decide) (by
              intro p hp
              simp only [List.mem_cons, List.mem_nil_iff, or_false] at hp
              rcases hp with rfl | rfl | rfl | rfl
              · exact pt_ok (((((Row.keep re (w' := we.drew) (fun _ => rfl))).below C24 (Nat.le_refl _)).below C26 (Nat.le_refl _)).alloc (.cells #[.slice ae 12 ce, .slice (some ⟨gb, k * 64, none⟩) 64 (c2 - k * 64), .slice a24 4 c24, .slice a26 4 c26] 27)) rfl (by first | decide | exact Nat.succ_pos _) ne
              · exact pt_some (((((Row.keep rcut (w' := we.drew) (fun _ => rfl))).below C24 (Nat.le_refl _)).below C26 (Nat.le_refl _)).alloc (.cells #[.slice ae 12 ce, .slice (some ⟨gb, k * 64, none⟩) 64 (c2 - k * 64), .slice a24 4 c24, .slice a26 4 c26] 27))
              · exact pt_ok (((r24).below C26 (Nat.le_refl _)).alloc (.cells #[.slice ae 12 ce, .slice (some ⟨gb, k * 64, none⟩) 64 (c2 - k * 64), .slice a24 4 c24, .slice a26 4 c26] 27)) rfl (by first | decide | exact Nat.succ_pos _) n24
              · exact pt_ok ((r26).alloc (.cells #[.slice ae 12 ce, .slice (some ⟨gb, k * 64, none⟩) 64 (c2 - k * 64), .slice a24 4 c24, .slice a26 4 c26] 27)) rfl (by first | decide | exact Nat.succ_pos _) n26) (by simp [flat, lay4_length, lay2_length, HCL.out]; try omega)
          rw [show flat [⟨ae, ce, (lay4 r ++ lay4 no ++ lay2 (k : Int) ++ lay2 (count : Int))⟩, ⟨(some ⟨gb, k * 64, none⟩), (c2 - k * 64), cut (padE l count) (k * 64) 64⟩, ⟨a24, c24, lay4 no⟩, ⟨a26, c26, lay4 r⟩] = lay4 r ++ lay4 no ++ lay2 (k : Int) ++ lay2 (count : Int) ++ cut (padE l count) (k * 64) 64 ++ lay4 no ++ lay4 r by simp [flat], leafB_length' _ _ _ _ _ HCL.out] at CC
          clear HRCC
          go_simp
          go_at_call 66
          refine (CC).mono ?_
          rintro e wq30 ⟨v30, rfl, o30, C30⟩
          obtain ⟨a30, c30, rfl, -, -, -, r30, -, n30⟩ := row_of_owns o30
          clear CC
          have BB30 := (BB28).trans (C30.mono (Below.size (BB28)))
          refine hK.out _ _ (SB _ BB30) (fun hH31 => ?_)
          clear hK
          try simp only [Act.put, List.setIfInBounds_toArray, List.set_cons_zero, List.set_cons_succ]
          refine wpAnyH_ready (rs := [15]) (by kernel_rfl) (by simp) ?_
          refine (AllReadyH.cons (by simp only [List.getElem?_toArray, List.getElem?_cons_zero, List.getElem?_cons_succ]; rfl) (fun K hK => ?_) AllReadyH.nil)
          go_simp
          go_at_call 114
          refine (lclosed_any a30 84 c30 (lay4 r ++ lay4 no ++ lay2 (k : Int) ++ lay2 (count : Int) ++ cut (padE l count) (k * 64) 64 ++ lay4 no ++ lay4 r) _ (r30) (leafB_length' _ _ _ _ _ HCL.out) n30 (by decide) (((((((lay4_bytes r).append (lay4_bytes no)).append (lay2_bytes _)).append (lay2_bytes _)).append HCB.out).append (lay4_bytes no)).append (lay4_bytes r))).mono ?_
          rintro e wq32 ⟨v32, rfl, o32, C32⟩
          obtain ⟨b32, c32, e832, -⟩ := own96 o32
          subst e832
          have BB32 := (BB30).trans (C32.mono (Below.size (BB30)))
          refine hK.out _ _ (SB _ BB32) (fun hH33 => ?_)
          clear hK
          try simp only [Act.put, List.setIfInBounds_toArray, List.set_cons_zero, List.set_cons_succ]
          refine wpAnyH_ready (rs := [16]) (by kernel_rfl) (by simp) ?_
          refine (AllReadyH.cons (by simp only [List.getElem?_toArray, List.getElem?_cons_zero, List.getElem?_cons_succ]; rfl) (fun K hK => ?_) AllReadyH.nil)
          go_simp
          have BB34 := (BB32).alloc (Below.size (BB32)) (.cells #[.slice (some b32) 96 c32] 27)
          refine hK.out _ _ (SB _ BB34) (fun hH35 => ?_)
          clear hK
          try simp only [Act.put, List.setIfInBounds_toArray, List.set_cons_zero, List.set_cons_succ]
          refine wpAnyH_ready (rs := [17]) (by kernel_rfl) (by simp) ?_
          refine (AllReadyH.cons (by simp only [List.getElem?_toArray, List.getElem?_cons_zero, List.getElem?_cons_succ]; rfl) (fun K hK => ?_) AllReadyH.nil)
          obtain ⟨hs, q1, q2⟩ := (((((((((LO.out).below (B := we.heap.size) (Below.refl _ _).drew (Nat.le_refl _))).below C24 (Nat.le_refl _)).below C26 (Nat.le_refl _)).alloc (.cells #[.slice ae 12 ce, .slice (some ⟨gb, k * 64, none⟩) 64 (c2 - k * 64), .slice a24 4 c24, .slice a26 4 c26] 27)).below C30 (Nat.le_refl _)).below C32 (Nat.le_refl _)).alloc (.cells #[.slice (some b32) 96 c32] 27)).row
          rw [List.length_map, List.length_range] at q1
          refine step_append_rowB (P := Tryz.prog) (by rfl) _ _ 46 (by rfl) w2.heap.size 27 ip (.slice none 0 0) Tryz.underlying46 hip hpz0 hpz1 hp24 rfl vo k hs (by rfl) q1 (some ⟨wq32.heap.size, 0, none⟩) 1 1 [.slice (some b32) 96 c32] (by rfl) (row_at wq32 #[.slice (some b32) 96 c32] 27 (by simp)) rfl (fun h => by cases h) (fun x hx => by simp at hx; subst hx; rfl) (by simp only [maxLen]; omega) (by rw [hpz2]; omega) (Below.size (BB34)) ?_
          intro v36 w36 O36 C36 G36
          have BB36 := (BB34).trans C36
          have LP36 : LvsAt w36 w2.heap.size v36 ((List.range (k + 1)).map (leafB r no (padE l count) count)) := by
            rw [List.range_succ, List.map_append]
            exact LvsAt.push (by rw [List.length_map, List.length_range]; exact q1) q2 (Below.owns (B := _) ((Below.refl _ _).alloc (Nat.le_refl _) _) (Nat.le_refl _) (owns_mono o32 (Below.size (BB30)))) (closed_bytes (((((((lay4_bytes r).append (lay4_bytes no)).append (lay2_bytes _)).append (lay2_bytes _)).append HCB.out).append (lay4_bytes no)).append (lay4_bytes r))) (by rw [List.length_map, List.length_range]; exact O36) G36
          refine hK.out _ _ (SB _ BB36) (fun hH37 => ?_)
          clear hK
          try simp only [Act.put, List.setIfInBounds_toArray, List.set_cons_zero, List.set_cons_succ]
          refine wpAnyH_take (i := 18) (v := ?v38) (by simp only [List.getElem?_toArray, List.getElem?_cons_zero, List.getElem?_cons_succ]; rfl) (by kernel_rfl) (by kernel_rfl) (by kernel_rfl) (by exact fun _ _ _ h => h) (Or.inl ⟨by rfl, ?h38⟩) (by assumption) ?r38
          case h38 => (intro w hSw; (try dsimp only at hSw); go_simp; try with_reducible rfl)
          try simp only [Act.put, List.setIfInBounds_toArray, List.set_cons_zero, List.set_cons_succ]
          refine wpAnyH_done (by kernel_rfl) ?_ _
          have LPH := hid LP36
          clear LP36
          go_wp2_with fail
          go_roundw
          case measure => simp [intOf]; omega
          case rel => exact ⟨k + 1, _, rfl, by go_num, by omega, LPH, BB36⟩
        · obtain rfl : count = k := by omega
          have LO2 := LO.out
          rw [← HPL.out] at LO2
          have LO3 := hid LO2
          go_wp2_with fail
          go_ret
          exact ⟨_, rfl, LO3.out.mono s2, B2.trans (BK.mono s2)⟩

end Go.Proofs.YtleoelhhndeheaaGreat
