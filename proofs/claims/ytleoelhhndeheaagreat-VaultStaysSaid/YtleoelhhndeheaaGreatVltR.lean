import Derived.Test.YtleoelhhndeheaaGreatVltN
import Derived.Test.YtleoelhhndeheaaGreatLedE
import Derived.Test.YtleoelhhndeheaaGreatLedS
import Derived.Test.YtleoelhhndeheaaGreatGoodD
import Derived.Test.YtleoelhhndeheaaGreatKnown4
/- package vault: what was turned; Keep -/
open Go Go.RowKit
open Go.Maps (Keyed has)
namespace Go.Proofs.YtleoelhhndeheaaGreat

/-- the entries that a Keep writes -/
def turnedE (K N : Rcs) (k : Int) : List Ent := if laidT K k = laidT N k then [] else [(k, (laidT N k).getD [])]
def turnedL (K N : Rcs) : List Ent := (homeKeys (laidT N) 4200).flatMap (turnedE K N)
theorem turnedL_take (K N : Rcs) {j : Nat} {k : Int} (h : (homeKeys (laidT N) 4200)[j]? = some k) : ((homeKeys (laidT N) 4200).take (j + 1)).flatMap (turnedE K N) = ((homeKeys (laidT N) 4200).take j).flatMap (turnedE K N) ++ turnedE K N k := by
  rw [List.take_add_one, h]
  simp
theorem laidT_rng {R : Rcs} {H : Nat} (ok : RcsOk R H) (h0 : 0 < H) {k : Int} (h : (laidT R k).isSome) : 0 ≤ k ∧ k < H := by
  obtain ⟨z, hz⟩ := Option.isSome_iff_exists.1 h
  rcases laidT_some ok hz with ⟨rfl, -⟩ | ⟨i, x, hx, j, hj, rfl, -⟩
  · omega
  · have := ok.tr i x hx _ (List.getElem_mem hj); omega
theorem laidT_wf {R : Rcs} {H : Nat} (ok : RcsOk R H) {k : Int} {z : List Int} (hz : laidT R k = some z) : z.length = 96 ∧ IsBytes z := by
  rcases laidT_some ok hz with ⟨-, rfl⟩ | ⟨i, y, hy, q, hq, -, rfl⟩
  · exact ⟨closed_length (by rw [listB_length]; decide), closed_bytes (listU_bytes R 40)⟩
  · have hb := ok.b i y hy
    have hp := partLen y.1 q
    refine ⟨closed_length (by rw [recB_length]; omega), closed_bytes ?_⟩
    have hi := ok.id i y hy
    unfold recB
    refine ((lay2_bytes _).append ?_).append ((hb.2.drop _).take _)
    intro a ha
    simp only [List.mem_cons, List.mem_nil_iff, or_false] at ha
    rcases ha with rfl | rfl <;> omega
theorem LaidAt.below {w w' : World} {base g : Nat} {T : Int → Option (List Int)} (h : LaidAt w base g T) {B : Nat} (k : Below B w w') (hB : w.heap.size ≤ B) : LaidAt w' base g T := by
  obtain ⟨Z, h1, h2⟩ := h.out
  refine ⟨Z, h1.below k hB, fun x => ?_⟩
  rcases h2 x with h | ⟨v, z, e1, e2, e3⟩
  · exact .inl h
  · exact .inr ⟨v, z, e1, e2, e3.below k hB⟩
theorem LaidAt.mono {w : World} {base base' g : Nat} {T : Int → Option (List Int)} (h : LaidAt w base g T) (hb : base' ≤ base) : LaidAt w base' g T := by
  obtain ⟨Z, h1, h2⟩ := h.out
  refine ⟨Z, h1, fun x => ?_⟩
  rcases h2 x with h | ⟨v, z, e1, e2, e3⟩
  · exact .inl h
  · exact .inr ⟨v, z, e1, e2, e3.1.step (Ext.refl (fun _ => False) _) (fun _ h => h.elim) (fun q hq => .inl (hq.imp (fun h => by omega) (fun h => h))), owns_mono e3.2 hb⟩
/-- entries of one's own, the row in a block from lo2 on -/
structure EntsO2 (w : World) (lo lo2 : Nat) (v : Value) (l : List Ent) : Prop where
  row : ∃ us : List Value, us.length = l.length ∧ w.ownsRow lo2 100 2 v l.length (entCells l us) ∧ ∀ (i : Nat) (x : Ent), l[i]? = some x → ∃ u, us[i]? = some u ∧ w.ownsRow lo 5 1 u 96 (B8 x.2) ∧ IsBytes x.2 ∧ (0 ≤ x.1 ∧ x.1 < 65536)
theorem EntsO2.ents {w : World} {lo lo2 : Nat} {v : Value} {l : List Ent} (h : EntsO2 w lo lo2 v l) (hl : lo ≤ lo2) : EntsOwn w lo v l := by
  obtain ⟨us, h0, h1, h2⟩ := h.row
  exact ⟨us, h0, owns_mono2 h1 hl, h2⟩
theorem EntsO2.nil (w : World) (lo lo2 : Nat) : EntsO2 w lo lo2 (.slice none 0 0) [] := ⟨[], rfl, World.ownsRow_nil _ _ _ _, fun i x h => by simp at h⟩
theorem EntsO2.below {w w' : World} {lo lo2 : Nat} {v : Value} {l : List Ent} (h : EntsO2 w lo lo2 v l) {B : Nat} (k : Below B w w') (hB : w.heap.size ≤ B) : EntsO2 w' lo lo2 v l := by
  obtain ⟨us, h0, h1, h2⟩ := h.row
  have kx := Ext.of_below (k.mono hB) (fun _ => False)
  refine ⟨us, h0, kx.owns2 (fun _ _ h => h) h1, fun i x hi => ?_⟩
  obtain ⟨u, h3, h4, r⟩ := h2 i x hi
  exact ⟨u, h3, kx.owns2 (fun _ _ h => h) h4, r⟩
theorem EntsO2.push {w w' : World} {lo lo2 : Nat} {v v' : Value} {l : List Ent} {us : List Value} (h0 : us.length = l.length) (h1 : w.ownsRow lo2 100 2 v l.length (entCells l us))
    (h2 : ∀ (i : Nat) (x : Ent), l[i]? = some x → ∃ u, us[i]? = some u ∧ w.ownsRow lo 5 1 u 96 (B8 x.2) ∧ IsBytes x.2 ∧ (0 ≤ x.1 ∧ x.1 < 65536))
    {u : Value} {x : Ent} (hu : w.ownsRow lo 5 1 u 96 (B8 x.2)) (hz : IsBytes x.2) (hx : 0 ≤ x.1 ∧ x.1 < 65536)
    (ho : w'.ownsRow lo2 100 2 v' (l.length + 1) (entCells l us ++ [.int .i64 x.1, u])) (hg : w.grownBy w' v.ownBlock) (hl : lo ≤ lo2) : EntsO2 w' lo lo2 v' (l ++ [x]) := by
  have hE := EntsOwn.push (lo := lo) h0 (owns_mono2 h1 hl) h2 hu hz hx (owns_mono2 ho hl) hg
  have far : ∀ (u : Value) (ys : List Int), w.ownsRow lo 5 1 u 96 (B8 ys) → w'.ownsRow lo 5 1 u 96 (B8 ys) := fun u ys hu =>
    (Ext.of_grown hg).owns (fun g hgu hf => owns_ne2 h1 hu (by decide) g hgu hf) hu
  refine ⟨us ++ [u], by simp [h0], by rw [List.length_append, entCells_push _ _ h0]; exact ho, fun i y hi => ?_⟩
  rcases Nat.lt_or_ge i l.length with hl' | hl'
  · rw [List.getElem?_append_left hl'] at hi
    obtain ⟨u', q1, q2, q3⟩ := h2 i y hi
    exact ⟨u', by rw [List.getElem?_append_left (by omega)]; exact q1, far _ _ q2, q3⟩
  · rw [List.getElem?_append_right hl'] at hi
    rcases hk : i - l.length with _ | m
    · rw [hk] at hi
      obtain rfl : x = y := by simpa using hi
      exact ⟨u, by rw [List.getElem?_append_right (by omega), show i - us.length = 0 by omega]; rfl, far _ _ hu, hz, hx⟩
    · rw [hk] at hi; simp at hi
/-- the look-up of a track -/
theorem LaidAt.look {w : World} {base g : Nat} {T : Int → Option (List Int)} (h : LaidAt w base g T) (hz : ∀ k z, T k = some z → z.length = 96) (k : Int) (hk : -9223372036854775808 ≤ k ∧ k ≤ 9223372036854775807) :
    ∃ a n c, (Instr.lookup 65 (.map (some g)) (.int .i64 k) false).run Tryz.prog w = .ok (.slice a n c) w ∧ Row w a (B8 ((T k).getD [])) ∧ ((T k).getD []).length = n ∧ n ≤ c ∧ c ≤ maxLen ∧ (∀ z, T k = some z → w.ownsRow base 5 1 (.slice a n c) 96 (B8 z) ∧ n = 96) := by
  obtain ⟨Z, h1, h2⟩ := h.out
  have lk := h1.look Tryz.underlying65 (zP w) hk
  rcases h2 k with ⟨e1, e2⟩ | ⟨v, z, e1, e2, e3⟩
  · rw [e1] at lk
    exact ⟨none, 0, 0, lk, by rw [e2]; exact Row.nil _ _, by rw [e2]; rfl, Nat.le_refl _, Nat.zero_le _, fun z hz' => by rw [e2] at hz'; cases hz'⟩
  · rw [e1] at lk
    have h96 := hz k z e2
    obtain ⟨a, c, ev, hrow, hle, hm, -, -⟩ := e3.1.out
    subst ev
    rw [B8_length, h96] at lk hle
    refine ⟨a, 96, c, lk, by rw [e2]; exact hrow, by rw [e2]; exact h96, hle, hm, fun z' hz' => ?_⟩
    rw [e2] at hz'
    cases hz'
    have := e3.2
    rw [B8_length, h96] at this
    exact ⟨this, rfl⟩

set_option maxRecDepth 100000 in
set_option maxHeartbeats 8000000 in
theorem turnedV_any {w : World} {M : Dom} {B C : Nat → Prop} {d l mb v : Nat} {s : DS} {L : LS} {now kept : Rcs} (h : VSys w M B C d l mb v s L now kept) {H : Nat} (hH : 2 ≤ H ∧ H ≤ 4095) (okn : RcsOk now H) (okk : RcsOk kept H) :
    Calls Tryz.prog 45 #[.pointer (some ⟨v, 0, none⟩)] w fun e w' => ∃ u, e = .returned u ∧ EntsOwn w' w.heap.size u (turnedL kept now) ∧ Below w.heap.size w w' := by
  obtain ⟨ie, hie, hez0, hez1, hez2⟩ := info_parts (show (Tryz.prog.info? 100).map (fun i => (i.zero, i.size, i.bytes)) = some (some (.agg #[.int .i64 0, .slice none 0 0]), 2, 32) by kernel_rfl)
  obtain ⟨d1, t1, d2, t2, h2⟩ := h.out
  obtain ⟨c0, c1, c2, c3, c4⟩ := h2.cells
  have HV := hid h2
  have LAK := fun (W : World) (Bw : Below w.heap.size w W) => laidOut_any (h2.kept.below Bw (Nat.le_refl _)) okk hH.2
  have LAN := fun (W : World) (Bw : Below w.heap.size w W) => laidOut_any (h2.now.below Bw (Nat.le_refl _)) okn hH.2
  have SB : ∀ W, Below w.heap.size w W → (W.cell? ⟨v, 1, none⟩ = some (.map (some d1)) ∧ W.cell? ⟨v, 2, none⟩ = some (.map (some t1))) ∧ (W.cell? ⟨v, 3, none⟩ = some (.map (some d2)) ∧ W.cell? ⟨v, 4, none⟩ = some (.map (some t2))) := fun W k => ⟨⟨Below.cellAt k (lt_of_cell c1) c1, Below.cellAt k (lt_of_cell c2) c2⟩, Below.cellAt k (lt_of_cell c3) c3, Below.cellAt k (lt_of_cell c4) c4⟩
  have OKN := hid okn
  have OKK := hid okk
  clear h h2 okn okk
  go_enter Tryz.func45, Tryz.ntmps45
  go_wp2_with fail
  refine wp_region_held_drew (S := fun W => (W.cell? ⟨v, 1, none⟩ = some (.map (some d1)) ∧ W.cell? ⟨v, 2, none⟩ = some (.map (some t1))) ∧ (W.cell? ⟨v, 3, none⟩ = some (.map (some d2)) ∧ W.cell? ⟨v, 4, none⟩ = some (.map (some t2)))) (by kernel_rfl) (SB _ ((Below.refl w.heap.size w).drew)) (fun hHeld => ?_)
  refine wpAnyH_take (i := 0) (v := ?v1) (by simp only [List.getElem?_toArray, List.getElem?_cons_zero]; rfl) (by kernel_rfl) (by kernel_rfl) (by kernel_rfl) (by exact fun _ _ _ h => h) (Or.inl ⟨by rfl, ?h1⟩) (by assumption) ?r1
  case h1 => (intro w hSw; (try dsimp only at hSw); go_simp; try with_reducible rfl)
  try simp only [Act.put, List.setIfInBounds_toArray, List.set_cons_zero, List.set_cons_succ]
  refine wpAnyH_take (i := 1) (v := ?v2) (by simp only [List.getElem?_toArray, List.getElem?_cons_zero, List.getElem?_cons_succ]; rfl) (by kernel_rfl) (by kernel_rfl) (by kernel_rfl) (by exact fun _ _ _ h => h) (Or.inl ⟨by rfl, ?h2⟩) (by assumption) ?r2
  case h2 => (intro w hSw; (try dsimp only at hSw); go_simp; try with_reducible rfl)
  try simp only [Act.put, List.setIfInBounds_toArray, List.set_cons_zero, List.set_cons_succ]
  refine wpAnyH_take (i := 2) (v := ?v3) (by simp only [List.getElem?_toArray, List.getElem?_cons_zero, List.getElem?_cons_succ]; rfl) (by kernel_rfl) (by kernel_rfl) (by kernel_rfl) (by exact fun _ _ _ h => h) (Or.inl ⟨by rfl, ?h3⟩) (by assumption) ?r3
  case h3 => (intro w hSw; (try dsimp only at hSw); go_simp; try with_reducible rfl)
  try simp only [Act.put, List.setIfInBounds_toArray, List.set_cons_zero, List.set_cons_succ]
  refine wpAnyH_take (i := 3) (v := ?v4) (by simp only [List.getElem?_toArray, List.getElem?_cons_zero, List.getElem?_cons_succ]; rfl) (by kernel_rfl) (by kernel_rfl) (by kernel_rfl) (by exact fun _ _ _ h => h) (Or.inl ⟨by rfl, ?h4⟩) (by assumption) ?r4
  case h4 => (intro w hSw; (try dsimp only at hSw); go_simp; try with_reducible rfl)
  try simp only [Act.put, List.setIfInBounds_toArray, List.set_cons_zero, List.set_cons_succ]
  refine wpAnyH_take (i := 5) (v := ?v5) (by simp only [List.getElem?_toArray, List.getElem?_cons_zero, List.getElem?_cons_succ]; rfl) (by kernel_rfl) (by kernel_rfl) (by kernel_rfl) (by exact fun _ _ _ h => h) (Or.inl ⟨by rfl, ?h5⟩) (by assumption) ?r5
  case h5 => (intro w hSw; (try dsimp only at hSw); go_simp; try with_reducible rfl)
  try simp only [Act.put, List.setIfInBounds_toArray, List.set_cons_zero, List.set_cons_succ]
  refine wpAnyH_take (i := 6) (v := ?v6) (by simp only [List.getElem?_toArray, List.getElem?_cons_zero, List.getElem?_cons_succ]; rfl) (by kernel_rfl) (by kernel_rfl) (by kernel_rfl) (by exact fun _ _ _ h => h) (Or.inl ⟨by rfl, ?h6⟩) (by assumption) ?r6
  case h6 => (intro w hSw; (try dsimp only at hSw); go_simp; try with_reducible rfl)
  try simp only [Act.put, List.setIfInBounds_toArray, List.set_cons_zero, List.set_cons_succ]
  refine wpAnyH_take (i := 7) (v := ?v7) (by simp only [List.getElem?_toArray, List.getElem?_cons_zero, List.getElem?_cons_succ]; rfl) (by kernel_rfl) (by kernel_rfl) (by kernel_rfl) (by exact fun _ _ _ h => h) (Or.inl ⟨by rfl, ?h7⟩) (by assumption) ?r7
  case h7 => (intro w hSw; (try dsimp only at hSw); go_simp; try with_reducible rfl)
  try simp only [Act.put, List.setIfInBounds_toArray, List.set_cons_zero, List.set_cons_succ]
  refine wpAnyH_take (i := 8) (v := ?v8) (by simp only [List.getElem?_toArray, List.getElem?_cons_zero, List.getElem?_cons_succ]; rfl) (by kernel_rfl) (by kernel_rfl) (by kernel_rfl) (by exact fun _ _ _ h => h) (Or.inl ⟨by rfl, ?h8⟩) (by assumption) ?r8
  case h8 => (intro w hSw; (try dsimp only at hSw); go_simp; try with_reducible rfl)
  try simp only [Act.put, List.setIfInBounds_toArray, List.set_cons_zero, List.set_cons_succ]
  refine wpAnyH_ready (rs := [4]) (by kernel_rfl) (by simp) ?_
  refine (AllReadyH.cons (by simp only [List.getElem?_toArray, List.getElem?_cons_zero, List.getElem?_cons_succ]; rfl) (fun K hK => ?_) AllReadyH.nil)
  go_simp
  go_at_call 67
  refine (LAK _ ((Below.refl w.heap.size w).drew)).mono ?_
  rintro e wq9 ⟨g9, rfl, hg9, LA9, C9⟩
  have BB9 := ((Below.refl w.heap.size w).drew).trans (C9.mono (Below.size ((Below.refl w.heap.size w).drew)))
  refine hK.out _ _ (SB _ BB9) (fun hH10 => ?_)
  clear hK
  try simp only [Act.put, List.setIfInBounds_toArray, List.set_cons_zero, List.set_cons_succ]
  refine wpAnyH_ready (rs := [9]) (by kernel_rfl) (by simp) ?_
  refine (AllReadyH.cons (by simp only [List.getElem?_toArray, List.getElem?_cons_zero, List.getElem?_cons_succ]; rfl) (fun K hK => ?_) AllReadyH.nil)
  go_simp
  go_at_call 67
  refine (LAN _ (BB9)).mono ?_
  rintro e wq11 ⟨g11, rfl, hg11, LA11, C11⟩
  have BB11 := (BB9).trans (C11.mono (Below.size (BB9)))
  refine hK.out _ _ (SB _ BB11) (fun hH12 => ?_)
  clear hK
  try simp only [Act.put, List.setIfInBounds_toArray, List.set_cons_zero, List.set_cons_succ]
  refine wpAnyH_take (i := 10) (v := ?v13) (by simp only [List.getElem?_toArray, List.getElem?_cons_zero, List.getElem?_cons_succ]; rfl) (by kernel_rfl) (by kernel_rfl) (by kernel_rfl) (by exact fun _ _ _ h => h) (Or.inl ⟨by rfl, ?h13⟩) (by assumption) ?r13
  case h13 => (intro w hSw; (try dsimp only at hSw); go_simp; try with_reducible rfl)
  try simp only [Act.put, List.setIfInBounds_toArray, List.set_cons_zero, List.set_cons_succ]
  refine wpAnyH_take (i := 11) (v := ?v14) (by simp only [List.getElem?_toArray, List.getElem?_cons_zero, List.getElem?_cons_succ]; rfl) (by kernel_rfl) (by kernel_rfl) (by kernel_rfl) (by exact fun _ _ _ h => h) (Or.inl ⟨by rfl, ?h14⟩) (by assumption) ?r14
  case h14 => (intro w hSw; (try dsimp only at hSw); go_simp; try with_reducible rfl)
  try simp only [Act.put, List.setIfInBounds_toArray, List.set_cons_zero, List.set_cons_succ]
  refine wpAnyH_done (by kernel_rfl) ?_ _
  obtain ⟨wa, hwa⟩ : ∃ w', wq11 = w' := ⟨_, rfl⟩
  have BA := hid (BB11)
  rw [hwa] at BA ⊢
  have LA1 := hid (show LaidAt wa w.heap.size g9 (laidT kept) by rw [← hwa]; exact (LA9.mono (Below.size ((Below.refl w.heap.size w).drew))).below C11 (Nat.le_refl _))
  have LA2 := hid (show LaidAt wa w.heap.size g11 (laidT now) by rw [← hwa]; exact LA11.mono (Below.size (BB9)))
  clear hwa LA9 LA11
  obtain ⟨Z, hz1, hz2⟩ := LA2.out.out
  have hV : ∀ x, (Z x).isSome = (laidT now x).isSome := fun x => by
    rcases hz2 x with ⟨e1, e2⟩ | ⟨_, _, e1, e2, -⟩
    · rw [e1, e2]; rfl
    · rw [e1, e2]; rfl
  have ST := sorted_any (hz1.small (H := 4096) (fun x hx => by
    rw [hV] at hx
    have := laidT_rng OKN.out (by omega) hx; omega)) hV 4200 (fun x hx => by have := laidT_rng OKN.out (by omega) hx; omega)
  have KA := keys_any g11 wa
  clear hz1 hz2 hV
  go_wp2_with fail
  refine KA.mono ?_
  rintro e w1 ⟨rfl, rfl⟩
  clear KA
  go_wp2_with fail
  refine ST.mono ?_
  rintro e w4 ⟨u4, rfl, o4, B4⟩
  clear ST
  obtain ⟨ks, hks⟩ : ∃ ks, homeKeys (laidT now) 4200 = ks := ⟨_, rfl⟩
  have HKS := hid hks
  rw [hks] at o4
  obtain ⟨n, hn⟩ : ∃ n, ks.length = n := ⟨_, rfl⟩
  have HN := hid hn
  rw [hn] at o4
  have hnb : n ≤ 4200 := by rw [← hn, ← hks]; exact homeKeys_length _ _
  obtain ⟨a4, c4', rfl, hl4, -, -, r4, -, -⟩ := row_of_owns o4
  have R4 := hid r4
  have BW4 := hid (BA.out.trans (B4.mono BA.out.size))
  have B4H := hid B4
  have hix := fun k (hk : k < n) => idx_at1 (P := Tryz.prog) (T := 33) Tryz.underlying33 szI (cap := c4') (a := a4) (fun _ => r4.nn (by rw [hl4]; omega)) hk
  clear o4 r4 hl4 B4 hks hn
  go_wp2_with fail
  go_loopw [5, 22] (fun u5 u22 wr => ∃ (j : Nat) (o : Value), o = u5 ∧ u22 = .int .i64 j ∧ j ≤ n ∧ Hid (EntsO2 wr w.heap.size w4.heap.size o ((ks.take j).flatMap (turnedE kept now))) ∧ Hid (((ks.take j).flatMap (turnedE kept now)).length ≤ j) ∧ Hid (Below w4.heap.size w4 wr)) (fun _ v _ => n - (intOf v).toNat)
  case atStart => exact ⟨0, _, rfl, rfl, Nat.zero_le _, hid (by simpa using EntsO2.nil w4 w.heap.size w4.heap.size), hid (by simp), hid (Below.refl _ _)⟩
  case round =>
    obtain ⟨j, o, rfl, rfl, hj, EO, EL, BK⟩ := hrel
    obtain ⟨acc, hacc⟩ : ∃ acc, (ks.take j).flatMap (turnedE kept now) = acc := ⟨_, rfl⟩
    rw [hacc] at EO EL
    have HACC := hid hacc
    clear hacc
    have BWR := hid (BW4.out.trans (BK.out.mono BW4.out.size))
    by_cases hjn : j < n
    · have hixj := hix j hjn
      obtain ⟨k, hk⟩ : ∃ k, ks[j]? = some k := ⟨_, List.getElem?_eq_getElem (by rw [HN.out]; exact hjn)⟩
      have ck : wr.cell? ⟨sB a4, sO a4 + j, none⟩ = some (.int .i64 k) := by
        have := (R4.out.below BK.out (Nat.le_refl _)).cell j (.int .i64 k) (by rw [I8, List.getElem?_map, hk]; rfl)
        exact this
      have hkm : (laidT now k).isSome := (homeKeys_mem.1 (by rw [HKS.out]; exact List.mem_of_getElem? hk)).2
      have hkr := laidT_rng OKN.out (by omega) hkm
      obtain ⟨z, hz⟩ := Option.isSome_iff_exists.1 hkm
      obtain ⟨z96, zby⟩ := laidT_wf OKN.out hz
      have HTK := hid (show (ks.take (j + 1)).flatMap (turnedE kept now) = acc ++ turnedE kept now k by rw [← HACC.out, ← HKS.out]; exact turnedL_take kept now (by rw [HKS.out]; exact hk))
      have BAR : Below wa.heap.size wa wr := B4H.out.trans (BK.out.mono B4H.out.size)
      have L1r := hid (LA1.out.below BAR (Nat.le_refl _))
      have L2r := hid (LA2.out.below BAR (Nat.le_refl _))
      obtain ⟨k1a, k1n, k1c, lk1, k1row, k1l, k1le, k1m, k1o⟩ := L1r.out.look (fun q z hq => (laidT_wf OKK.out hq).1) k (by omega)
      obtain ⟨k2a, k2n, k2c, lk2, k2row, k2l, k2le, k2m, k2o⟩ := L2r.out.look (fun q z hq => (laidT_wf OKN.out hq).1) k (by omega)
      rw [hz] at k2row k2l
      obtain ⟨k2own, rfl⟩ := k2o z hz
      obtain ⟨y, hy⟩ : ∃ y, (laidT kept k).getD [] = y := ⟨_, rfl⟩
      rw [hy] at k1row k1l
      have yb : IsBytes y ∧ y.length ≤ 96 := by
        rw [← hy]
        cases hq : laidT kept k with
        | none => exact ⟨nofun, by simp⟩
        | some q => exact ⟨(laidT_wf OKK.out hq).2, Nat.le_of_eq (laidT_wf OKK.out hq).1⟩
      have EQ := equalB_any k1a k2a k1n 96 k1c k2c y z wr k1row k2row k1l z96 (by omega) yb.1 zby
      have HEQ := hid (show (y = z) ↔ laidT kept k = laidT now k by
        rw [hz, ← hy]
        cases hq : laidT kept k with
        | none =>
          constructor
          · intro e
            have e : ([] : List Int) = z := e
            rw [← e] at z96; cases z96
          · intro e; cases e
        | some q => simp)
      have HZ := hid hz
      have HZB := hid zby
      have HOWN := hid k2own
      clear BAR k1o k2o hy hz yb zby hkm k1row k1l k1le k1m k2row k2l k2le k2m hk k2own
      by_cases hyz : y = z
      · rw [decide_eq_true hyz] at EQ
        have HTE := hid (show turnedE kept now k = [] by unfold turnedE; rw [if_pos (HEQ.out.1 hyz)])
        clear hyz
        go_wp2_with fail
        refine EQ.mono ?_
        rintro e w6 ⟨rfl, nq, rfl⟩
        clear EQ lk1 lk2
        go_wp2_with fail
        go_roundw
        case measure => simp [intOf]; omega
        case rel =>
          refine ⟨j + 1, _, rfl, by go_num, by omega, hid ?_, hid ?_, hid (Below.drewN BK.out nq)⟩
          · rw [HTK.out, HTE.out, List.append_nil]
            exact EO.out.below (Below.drewN (Below.refl _ _) nq) (Nat.le_refl _)
          · rw [HTK.out, HTE.out, List.append_nil]
            have := EL.out; omega
      · rw [decide_eq_false hyz] at EQ
        have HTE := hid (show turnedE kept now k = [(k, z)] by unfold turnedE; rw [if_neg (fun e => hyz (HEQ.out.2 e)), HZ.out]; rfl)
        clear hyz
        go_wp2_with fail
        refine EQ.mono ?_
        rintro e w6 ⟨rfl, nq, rfl⟩
        have lk2' : (Instr.lookup 65 (.map (some g11)) (.int .i64 k) false).run Tryz.prog (wr.drewN nq) = .ok (.slice k2a 96 k2c) (wr.drewN nq) := by
          obtain ⟨Z, q1, q2⟩ := L2r.out.out
          have q3 := (q1.ext ((Ext.refl (fun _ => False) wr).drewN nq) (fun h => h)).look Tryz.underlying65 (zP (wr.drewN nq)) (x := k) (by omega)
          have q4 := q1.look Tryz.underlying65 (zP wr) (x := k) (by omega)
          have q5 := (Result.ok.inj (q4.symm.trans lk2)).1
          rw [q5] at q3
          exact q3
        have EO6 := hid (EO.out.below (Below.drewN (Below.refl _ _) nq) (Nat.le_refl _))
        have OW6 := hid (Below.owns (Below.drewN (Below.refl _ wr) nq) (Nat.le_refl _) HOWN.out)
        have BK6 := hid (Below.drewN BK.out nq)
        obtain ⟨w6, hw6⟩ : ∃ w', wr.drewN nq = w' := ⟨_, rfl⟩
        rw [hw6] at lk2' EO6 OW6 BK6 ⊢
        clear EQ lk1 lk2 hw6 ck EO
        obtain ⟨us, u0, u1, u2⟩ := (EO6.out.below ((Below.refl w6.heap.size w6).alloc (Nat.le_refl _) (.cells #[.int .i64 k, .slice k2a 96 k2c] 100)) (Nat.le_refl _)).row
        have U0 := hid u0
        have U1 := hid u1
        have U2 := hid u2
        have S6 := hid BK6.out.size
        have OW7 := hid (Below.owns ((Below.refl w6.heap.size w6).alloc (Nat.le_refl _) (.cells #[.int .i64 k, .slice k2a 96 k2c] 100)) (Nat.le_refl _) OW6.out)
        clear u0 u1 u2
        go_wp2_with (first | (at_builtin; refine wpList_append_own (P := Tryz.prog) _ rfl _ _ 77 rfl w4.heap.size 100 ie (.agg #[.int .i64 0, .slice none 0 0]) 2 32 Tryz.underlying77 hie hez0 hez1 hez2 rfl (by decide) o acc.length (entCells acc us) rfl U1.out ⟨w6.heap.size, 0, none⟩ 1 1 [.int .i64 k, .slice k2a 96 k2c] rfl rfl (row_new w6 #[.int .i64 k, .slice k2a 96 k2c] 100).news (fun u hu => by simp at hu; rcases hu with rfl | rfl <;> rfl) ?c3 ?c4 ?c5 ?_) | fail)
        case c3 => have := EL.out; simp only [maxLen]; omega
        case c4 => have := EL.out; omega
        case c5 => have := S6.out; simp; omega
        intro v7 w7 O7 G7 _
        have B7 := hid ((Below.refl _ _).grown (B := w4.heap.size) G7 (by have := S6.out; simp; omega) (own_base U1.out))
        have LP := hid (EntsO2.push (x := (k, z)) U0.out U1.out U2.out OW7.out HZB.out ⟨by omega, by omega⟩ O7 G7 BW4.out.size)
        clear O7 G7
        go_wp2_with fail
        go_roundw
        case measure => simp [intOf]; omega
        case rel =>
          refine ⟨j + 1, v7, rfl, by go_num, by omega, hid ?_, hid ?_, hid ((BK6.out.alloc S6.out _).trans B7.out)⟩
          · rw [HTK.out, HTE.out]
            exact LP.out
          · rw [HTK.out, HTE.out, List.length_append]
            have := EL.out
            simp; omega
    · obtain rfl : j = n := by omega
      go_wp2_with fail
      go_ret
      refine ⟨_, rfl, ?_, BWR.out⟩
      have e : turnedL kept now = acc := by
        unfold turnedL
        rw [HKS.out, ← HACC.out, List.take_of_length_le (Nat.le_of_eq HN.out)]
      rw [e]
      exact EO.out.ents BW4.out.size

end Go.Proofs.YtleoelhhndeheaaGreat

/- a ledger on a drum that goes: its calls as the laws want them -/
open Go Go.RowKit
namespace Go.Proofs.YtleoelhhndeheaaGreat

/-- a ledger that goes: N acts behind its beginning; V its home tracks -/
structure Live (w : World) (M : Dom) (B : Nat → Prop) (d l mb n : Nat) (lv : Int) (N : Nat) (V : Nat → List Int) (s : DS) (L : LS) : Prop where
  sys : Sys w M B d l mb s L
  full : ∃ P, Full L s P
  n : s.n = n
  leaves : L.leaves = lv
  up : s.up.length ≤ 10000 * N
  round : L.round ≤ 2 + N
  last : L.last ≤ N
  v : ∀ k, k < L.H s → view L s k = V k
/-- the same, and all of it is settled -/
structure Quiet (s : DS) : Prop where
  kept : s.kept = s.now
  up : s.up = []

def homes (n : Nat) (lv : Int) : Nat := ((n : Int) - (2 + lv)).toNat
theorem Live.H {w : World} {M : Dom} {B : Nat → Prop} {d l mb n : Nat} {lv : Int} {N : Nat} {V : Nat → List Int} {s : DS} {L : LS} (h : Live w M B d l mb n lv N V s L) : L.H s = homes n lv := by
  unfold LS.H homes
  rw [h.n, h.leaves]
theorem Live.ok {w : World} {M : Dom} {B : Nat → Prop} {d l mb n : Nat} {lv : Int} {N : Nat} {V : Nat → List Int} {s : DS} {L : LS} (h : Live w M B d l mb n lv N V s L) : L.Ok s := by
  obtain ⟨P, f⟩ := h.full
  exact f.g.ok
theorem Live.below {w w' : World} {M : Dom} {B : Nat → Prop} {d l mb n : Nat} {lv : Int} {N : Nat} {V : Nat → List Int} {s : DS} {L : LS} (h : Live w M B d l mb n lv N V s L) (k : Below w.heap.size w w') : Live w' M B d l mb n lv N V s L :=
  ⟨h.sys.below k, h.full, h.n, h.leaves, h.up, h.round, h.last, h.v⟩
theorem Live.le {w : World} {M : Dom} {B : Nat → Prop} {d l mb n : Nat} {lv : Int} {N N' : Nat} {V : Nat → List Int} {s : DS} {L : LS} (h : Live w M B d l mb n lv N V s L) (hN : N ≤ N') : Live w M B d l mb n lv N' V s L :=
  ⟨h.sys, h.full, h.n, h.leaves, by have := h.up; omega, by have := h.round; omega, by have := h.last; omega, h.v⟩
theorem Live.wf {w : World} {M : Dom} {B : Nat → Prop} {d l mb n : Nat} {lv : Int} {N : Nat} {V : Nat → List Int} {s : DS} {L : LS} (h : Live w M B d l mb n lv N V s L) {k : Nat} (hk : k < homes n lv) : (V k).length = 96 ∧ IsBytes (V k) := by
  obtain ⟨P, f⟩ := h.full
  have hk2 : k < L.H s := by rw [h.H]; exact hk
  have := view_wf f.g.ok f.g.wf hk2
  rwa [h.v k hk2] at this
def WriteU (w : World) (M : Dom) (B : Nat → Prop) (d l n : Nat) (lv : Int) (N : Nat) (V : Nat → List Int) (el : List Ent) (e : Ending) (w' : World) : Prop :=
  ∃ M' B' mb' s' L', LStep M B w M' B' w' ∧ (((mayE el (homes n lv) = false ∧ e = .returned (.int .i64 1) ∧ Live w' M' B' d l mb' n lv (N + 1) V s' L')) ∨ (mayE el (homes n lv) = true ∧ leavesN el.length > lv ∧ e = .returned (.int .i64 5) ∧ Live w' M' B' d l mb' n lv (N + 1) V s' L') ∨
    (mayE el (homes n lv) = true ∧ leavesN el.length ≤ lv ∧ e = .returned (.int .i64 0) ∧ Live w' M' B' d l mb' n lv (N + 1) (fun k => over el k (V k)) s' L'))
theorem writeU {w : World} {M : Dom} {B : Nat → Prop} {d l mb n : Nat} {lv : Int} {N : Nat} {V : Nat → List Int} {s : DS} {L : LS} (h : Live w M B d l mb n lv N V s L) (hN : N ≤ 1000) (ea : Option Addr) (en cap : Nat) (el : List Ent) (hE : EntsAt w (inD M) ea en el) (hn : en ≤ 600) (hb : ∀ x ∈ el, IsBytes x.2) :
    Calls Tryz.prog 46 #[.pointer (some ⟨l, 0, none⟩), .slice ea en cap] w (WriteU w M B d l n lv N V el) := by
  obtain ⟨P, f⟩ := h.full
  have hr := h.round
  have hl := h.last
  have hu := h.up
  have hv := h.v
  have hH := h.H
  refine (write_any h.sys f.g.ok (by omega) (by omega) ea en cap el hE (by omega)).mono ?_
  rintro e w' ⟨rfl, M', B', mb', SY, LT⟩
  have kp := LS.write_keep f.g.ok hb (by omega) (by omega)
  refine ⟨M', B', mb', (L.write s el).2.2, (L.write s el).2.1, LT, ?_⟩
  have key := f.write (by rw [hE.len]; exact hn) hb (by omega) (by omega)
  rw [hH] at key
  rw [hH] at hv
  rcases key with ⟨h1, h2⟩ | ⟨h1, h2, h3⟩ | ⟨h1, h2, L', s', P', h3, h4, h5, h6, h7, h8, h9⟩
  · rw [h2] at SY ⊢
    exact .inl ⟨h1, rfl, (⟨SY, ⟨P, f⟩, h.n, h.leaves, hu, hr, hl, h.v⟩ : Live w' M' B' d l mb' n lv N V s L).le (by omega)⟩
  · rw [h3] at SY ⊢
    exact .inr (.inl ⟨h1, by rw [h.leaves] at h2; exact h2, rfl, (⟨SY, ⟨P, f⟩, h.n, h.leaves, hu, hr, hl, h.v⟩ : Live w' M' B' d l mb' n lv N V s L).le (by omega)⟩)
  · have ku := kp.up
    rw [h3] at SY ku ⊢
    simp only at ku
    refine .inr (.inr ⟨h1, by rw [h.leaves] at h2; exact h2, rfl, SY, ⟨P', h4⟩, h6.trans h.n, h5.trans h.leaves, by show s'.up.length ≤ _; omega, by show L'.round ≤ _; omega, by show L'.last ≤ _; omega, fun k hk => ?_⟩)
    have e1 : L'.H s' = homes n lv := by unfold LS.H homes; rw [h6, h.n, h5, h.leaves]
    have hk2 : k < homes n lv := by rw [← e1]; exact hk
    show view L' s' k = _
    rw [h9 k hk2, hv k hk2]

theorem settleU {w : World} {M : Dom} {B : Nat → Prop} {d l mb n : Nat} {lv : Int} {N : Nat} {V : Nat → List Int} {s : DS} {L : LS} (h : Live w M B d l mb n lv N V s L) :
    Calls Tryz.prog 58 #[.pointer (some ⟨l, 0, none⟩)] w fun e w' => e = .returned (.int .i64 0) ∧ ∃ M' B' mb' s', LStep M B w M' B' w' ∧ Live w' M' B' d l mb' n lv N V s' L ∧ Quiet s' := by
  obtain ⟨P, f⟩ := h.full
  refine (lsettle_any h.sys).mono ?_
  obtain ⟨h1, h2⟩ := f.settle
  rintro e w' ⟨rfl, M', B', mb', SY, LT⟩
  rw [h1] at SY ⊢
  exact ⟨rfl, M', B', mb', _, LT, ⟨SY, ⟨P, h2⟩, h.n, h.leaves, Nat.zero_le _, h.round, h.last, h.v⟩, rfl, rfl⟩

theorem balanceU {w : World} {M : Dom} {B : Nat → Prop} {d l mb n : Nat} {lv : Int} {N : Nat} {V : Nat → List Int} {s : DS} {L : LS} (h : Live w M B d l mb n lv N V s L) (hN : N ≤ 1000) :
    Calls Tryz.prog 50 #[.pointer (some ⟨l, 0, none⟩)] w fun e w' => e = .returned (.int .i64 0) ∧ ∃ M' B' mb' s' L', LStep M B w M' B' w' ∧ Live w' M' B' d l mb' n lv (N + 1) V s' L' ∧ Quiet s' ∧ L'.used = 0 := by
  obtain ⟨P, f⟩ := h.full
  have hr := h.round
  have hu := h.up
  have hl := h.last
  refine (balance_any h.sys f.g.ok (by omega)).mono ?_
  obtain ⟨s', h1, h2, h3, h4, h5, h6⟩ := f.balance (by omega)
  rintro e w' ⟨rfl, M', B', mb', SY, LT⟩
  rw [h1] at SY ⊢
  have e1 : L.next.H s' = L.H s := by unfold LS.H; rw [h3]; rfl
  exact ⟨rfl, M', B', mb', _, _, LT, ⟨SY, ⟨[], h2⟩, h3.trans h.n, h.leaves, by show s'.up.length ≤ _; rw [h5]; exact Nat.zero_le _, by show L.round + 1 ≤ _; omega, by show (0 : Int) ≤ _; omega, fun k hk => by
    have hk2 : k < L.H s := by rw [← e1]; exact hk
    show view L.next s' k = _
    rw [h6 k hk2, h.v k hk2]⟩, ⟨h4, h5⟩, rfl⟩

/-- opened where a ledger stands that goes (the old one may be forgotten) -/
theorem openU {w : World} {M : Dom} {d n : Nat} {lv : Int} {N : Nat} {V : Nat → List Int} {s : DS} {L : LS} {P : List (List Ent)} (hd : DrumAt w M d s) (g : Good L s P) (hlo : L.lost = false) (hn : s.n = n) (hlv : L.leaves = lv) (hu : s.up.length ≤ 10000 * N) (hr : L.round ≤ 2 + N) (hv : ∀ k, k < L.H s → view L s k = V k) (hN : N ≤ 1000) :
    Calls Tryz.prog 48 #[.pointer (some ⟨d, 0, none⟩)] w fun e w' => ∃ M' B' l' mb' s' L', e = .returned (.tuple #[.pointer (some ⟨l', 0, none⟩), .int .i64 0]) ∧ LStep M none' w M' B' w' ∧ Live w' M' B' d l' mb' n lv (N + 1) V s' L' ∧ Quiet s' ∧ L'.used = 0 := by
  have hl := g.ok.l
  refine (open_any hd (by omega) g.ok.n1 (by omega)).mono ?_
  obtain ⟨s', h1, h2, h3, h4, h5, h6⟩ := g.openL hlo (by omega)
  rintro e w' (⟨-, M', B', l', mb', rfl, SY, LT⟩ | ⟨h, -⟩)
  · rw [h1] at SY
    have e1 : L.next.H s' = L.H s := by unfold LS.H; rw [h3]; rfl
    exact ⟨M', B', l', mb', _, _, rfl, LT, ⟨SY, ⟨[], h2⟩, h3.trans hn, hlv, by show s'.up.length ≤ _; rw [h5]; exact Nat.zero_le _, by show L.round + 1 ≤ _; omega, by show (0 : Int) ≤ _; omega, fun k hk => by
      have hk2 : k < L.H s := by rw [← e1]; exact hk
      show view L.next s' k = _
      rw [h6 k hk2, hv k hk2]⟩, ⟨h4, h5⟩, rfl⟩
  · rw [h1] at h
    exact absurd rfl h

theorem lookU {w : World} {M : Dom} {B : Nat → Prop} {d l mb n : Nat} {lv : Int} {N : Nat} {V : Nat → List Int} {s : DS} {L : LS} (h : Live w M B d l mb n lv N V s L) (k : Nat) (hk : k < homes n lv) :
    Calls Tryz.prog 76 #[.pointer (some ⟨l, 0, none⟩), .int .i64 (k : Int)] w fun e w' => ∃ a c, e = .returned (.tuple #[.slice (some a) 96 c, .int .i64 0]) ∧ w'.ownsRow w.heap.size 5 1 (.slice (some a) 96 c) 96 (B8 (V k)) ∧ (V k).length = 96 ∧ IsBytes (V k) ∧ Live w' M B d l mb n lv N V s L ∧ LStep M B w M B w' := by
  obtain ⟨P, f⟩ := h.full
  obtain ⟨h96, hby⟩ := h.wf hk
  have hl := f.g.ok.l
  have hn1 := f.g.ok.n1
  have hk2 : k < L.H s := by rw [h.H]; exact hk
  have hlo := f.lost
  have hbr := f.g.up.broken
  have e1 : L.lookC s k = 0 := by unfold LS.lookC; rw [if_pos ⟨by omega, by omega⟩, hlo, hbr]; simp
  have e2 : L.lookZ s k = V k := by
    rw [← h.v k hk2]
    unfold LS.lookZ view
    rw [if_pos e1]
    cases hh : L.taken k with
    | some z => rfl
    | none => show s.now _ = _; congr 1; omega
  have e3 : L.lookL s k = L := by unfold LS.lookL; rw [if_neg]; rintro ⟨-, -, -, -, hx⟩; rw [hbr] at hx; cases hx
  refine (lookL_any h.sys f.g.ok k (by have := h.n; have := h.leaves; unfold homes at hk; omega)).mono ?_
  rintro e w' ⟨a, m, c, rfl, ho, hb, SY, LT⟩
  rw [e2] at ho
  rw [e3] at SY
  rw [e1]
  obtain rfl : m = 96 := by have := ho.1; rw [B8_length] at this; omega
  obtain ⟨g, c', e5, -⟩ := owns_some ho (by omega)
  cases e5
  exact ⟨⟨g, 0, none⟩, c, rfl, ho, h96, hby, ⟨SY, ⟨P, f⟩, h.n, h.leaves, h.up, h.round, h.last, h.v⟩, LT⟩
theorem homeU {w : World} {M : Dom} {B : Nat → Prop} {d l mb n : Nat} {lv : Int} {N : Nat} {V : Nat → List Int} {s : DS} {L : LS} (h : Live w M B d l mb n lv N V s L) :
    Calls Tryz.prog 57 #[.pointer (some ⟨l, 0, none⟩)] w fun e w' => e = .returned (.int .i64 ((homes n lv : Nat) : Int)) ∧ w = w' := by
  have := home_any h.sys h.ok.lv
  rwa [h.H] at this
theorem blankU {w : World} {M : Dom} {B : Nat → Prop} {d l mb n : Nat} {lv : Int} {N : Nat} {V : Nat → List Int} {s : DS} {L : LS} (h : Live w M B d l mb n lv N V s L) :
    Calls Tryz.prog 70 #[.pointer (some ⟨l, 0, none⟩)] w fun e w' => e = .returned (.int .i64 (lv - L.used)) ∧ Below w.heap.size w w' := by
  have := blank_any h.sys h.ok
  rwa [h.leaves] at this
/-- a fall of what is settled -/
theorem fallU {w : World} {M : Dom} {B : Nat → Prop} {d l mb n : Nat} {lv : Int} {N : Nat} {V : Nat → List Int} {s : DS} {L : LS} (h : Live w M B d l mb n lv N V s L) (q : Quiet s) (ka : Option Addr) (kl kc : Nat) (keep : List Int) (torn cut : Int) (hK : IntsAt w ka kl kc keep) (hKM : 0 < kl → ¬ M (sB ka)) :
    Calls Tryz.prog 39 #[.pointer (some ⟨d, 0, none⟩), .slice ka kl kc, .int .i64 torn, .int .i64 cut] w fun e w' => e = .returned (.tuple #[]) ∧ ∃ M' s', DrumAt w' M' d s' ∧ Step M w M' w' ∧ (∃ P, Good L s' P) ∧ s'.n = n ∧ L.lost = false ∧ L.leaves = lv ∧ s'.up.length ≤ 10000 * N ∧ L.round ≤ 2 + N ∧ (∀ k, k < L.H s' → view L s' k = V k) := by
  obtain ⟨P, f⟩ := h.full
  refine (fall_any h.sys.drum ka kl kc keep torn cut hK hKM).mono ?_
  rintro e w' ⟨rfl, M', D', S'⟩
  obtain ⟨g1, g2⟩ := f.g.fallen q.up q.kept keep torn cut
  have e3 := (fall_settled q.up keep torn cut q.kept).2.2
  refine ⟨rfl, M', _, D', S', ⟨P, g1⟩, by rw [e3, h.n], f.lost, h.leaves, Nat.zero_le _, h.round, fun k hk => ?_⟩
  have e1 : L.H (s.fall keep torn cut) = L.H s := by unfold LS.H; rw [e3]
  rw [g2, h.v k (by rw [← e1]; exact hk)]

/-- one entry that was just made -/
theorem ents_one {w : World} {N : Nat → Prop} {ge gp cp t : Nat} {tt : TypeId} {k : Int} {z : List Int} {o1 : Nat × Nat} (he : w.heap[ge]? = some (.cells #[.int .i64 k, .slice (some ⟨gp, 0, none⟩) 96 cp] t o1)) (hp : w.heap[gp]? = some (.cells (B8 z).toArray tt (0, 0))) (hz : z.length = 96) (hb : IsBytes z) (hk : -9223372036854775808 ≤ k ∧ k ≤ 9223372036854775807) (h1 : ¬ N ge) (h2 : ¬ N gp) : EntsAt w N (some ⟨ge, 0, none⟩) 1 [(k, z)] := by
  refine ⟨rfl, fun _ => rfl, fun i x hi => ?_, fun i x hi => ?_, fun x hx => ?_, fun _ => h1⟩
  · rcases i with _ | i
    · obtain rfl : (k, z) = x := by simpa using hi
      exact blk_cell he rfl
    · simp at hi
  · rcases i with _ | i
    · obtain rfl : (k, z) = x := by simpa using hi
      exact ⟨some ⟨gp, 0, none⟩, cp, by rw [hz]; exact blk_cell he rfl, row_blk hp, fun h => (by cases h), hb, fun _ => h2⟩
    · simp at hi
  · obtain rfl : x = (k, z) := by simpa using hx
    exact ⟨hk.1, hk.2, by rw [hz]; decide⟩

end Go.Proofs.YtleoelhhndeheaaGreat

/- package vault: Keep and Open, on a ledger that goes -/
open Go Go.RowKit
open Go.Maps (Keyed has)
namespace Go.Proofs.YtleoelhhndeheaaGreat

/-! a step of the drum, the ledger and the vault -/
theorem LStep.vault {M M' : Dom} {B B' C : Nat → Prop} {w w' : World} (k : LStep M B w M' B' w') : LStep M (fun q => B q ∨ C q) w M' (fun q => B' q ∨ C q) w' :=
  ⟨k.ext.mono (fun i _ h => h.elim .inl (fun h => .inr (.inl h))), k.new, fun q h => h.elim (fun h => (k.newB q h).imp .inl (fun h => h)) (fun h => .inl (.inr h)), k.newX, k.oldX⟩
theorem VStep.vault {M M' : Dom} {B C C' : Nat → Prop} {w w' : World} (k : VStep M C w M' C' w') : LStep M (fun q => B q ∨ C q) w M' (fun q => B q ∨ C' q) w' :=
  ⟨k.ext.mono (fun i _ h => .inr (.inr h)), fun q h => .inl (by rw [k.m] at h; exact h), fun q h => h.elim (fun h => .inl (.inl h)) (fun h => (k.newC q h).imp .inr (fun h => h)), k.newX, k.oldX⟩

theorem turned_nil {K N : Rcs} {H : Nat} (okk : RcsOk K H) (okn : RcsOk N H) (hH : 2 ≤ H ∧ H ≤ 4095) (h : turnedL K N = []) : N = K := by
  have h1 := loadV_laid okk hH.2 (T := fun k => (laidT K k).getD []) (fun k z hz => by rw [hz]; rfl)
  have h2 := loadV_laid okn hH.2 (T := fun k => (laidT K k).getD []) (fun k z hz => by
    have hk : k ∈ homeKeys (laidT N) 4200 := by
      rw [homeKeys_mem]
      have := laidT_rng okn (by omega) (show (laidT N k).isSome by rw [hz]; rfl)
      exact ⟨by omega, by rw [hz]; rfl⟩
    have he : turnedE K N k = [] := by
      unfold turnedL at h
      rw [List.flatMap_eq_nil_iff] at h
      exact h k hk
    unfold turnedE at he
    by_cases e : laidT K k = laidT N k
    · rw [e, hz]; rfl
    · rw [if_neg e] at he; cases he)
  rw [h1] at h2
  exact (Option.some.inj h2).symm
theorem turnedL_mem {K N : Rcs} {x : Ent} (h : x ∈ turnedL K N) : laidT N x.1 = some x.2 := by
  unfold turnedL at h
  obtain ⟨k, hk, hx⟩ := List.mem_flatMap.1 h
  unfold turnedE at hx
  split at hx
  · cases hx
  · obtain rfl := List.mem_singleton.1 hx
    obtain ⟨z, hz⟩ := Option.isSome_iff_exists.1 (homeKeys_mem.1 hk).2
    show laidT N k = some ((laidT N k).getD [])
    rw [hz]; rfl
theorem turnedE_key {K N : Rcs} {k : Int} {x : Ent} (h : x ∈ turnedE K N k) : x.1 = k := by
  unfold turnedE at h
  split at h
  · cases h
  · rw [List.mem_singleton.1 h]
theorem turnedE_cases (K N : Rcs) (k : Int) : turnedE K N k = [] ∨ ∃ z, turnedE K N k = [(k, z)] := by
  unfold turnedE
  split
  · exact .inl rfl
  · exact .inr ⟨_, rfl⟩
theorem turnedL_keys (K N : Rcs) : ((turnedL K N).map Prod.fst).Pairwise (fun a b => a < b) := by
  unfold turnedL
  have key : ∀ l : List Int, l.Pairwise (fun a b => a < b) → ((l.flatMap (turnedE K N)).map Prod.fst).Pairwise (fun a b => a < b) := by
    intro l
    induction l with
    | nil => intro _; exact List.Pairwise.nil
    | cons a r ih =>
      intro hl
      have h2 := List.pairwise_cons.1 hl
      rw [List.flatMap_cons, List.map_append]
      rcases turnedE_cases K N a with e | ⟨z, e⟩
      · rw [e]; exact ih h2.2
      · rw [e]
        refine List.pairwise_cons.2 ⟨fun b hb => ?_, ih h2.2⟩
        obtain ⟨x, hx, rfl⟩ := List.mem_map.1 hb
        obtain ⟨k, hk, hx⟩ := List.mem_flatMap.1 hx
        rw [turnedE_key hx]
        exact h2.1 k hk
  exact key _ (homeKeys_sorted _ _)
theorem mayFrom_ok (homes : Int) : ∀ (l : List Ent) (s : List Int), (∀ x ∈ l, 0 ≤ x.1 ∧ x.1 < homes ∧ x.2.length = 96 ∧ x.1 ∉ s) → (l.map Prod.fst).Nodup → mayFrom homes l s = true
  | [], s, _, _ => rfl
  | x :: r, s, h, hn => by
    have h2 := List.nodup_cons.1 hn
    rw [mayFrom_cons, decide_eq_true (h x (by simp)), Bool.true_and]
    refine mayFrom_ok homes r (x.1 :: s) (fun y hy => ?_) h2.2
    obtain ⟨q1, q2, q3, q4⟩ := h y (by simp [hy])
    refine ⟨q1, q2, q3, fun hm => ?_⟩
    rcases List.mem_cons.1 hm with e | hm
    · exact h2.1 (List.mem_map.2 ⟨y, hy, e⟩)
    · exact q4 hm
theorem turned_may {K N : Rcs} {H : Nat} (okn : RcsOk N H) (hH : 2 ≤ H) (h : turnedL K N ≠ []) : mayE (turnedL K N) H = true := by
  unfold mayE
  rw [mayFrom_ok H _ [] (fun x hx => ?_) ((turnedL_keys K N).imp (fun {a b} h => by omega)), Bool.true_and]
  · refine decide_eq_true ?_
    cases hl : turnedL K N with
    | nil => exact absurd hl h
    | cons a r => simp
  · have hz := turnedL_mem hx
    have h1 := laidT_rng okn (by omega) (show (laidT N x.1).isSome by rw [hz]; rfl)
    exact ⟨h1.1, h1.2, (laidT_wf okn hz).1, List.not_mem_nil⟩
theorem turned_bytes {K N : Rcs} {H : Nat} (okn : RcsOk N H) : ∀ x ∈ turnedL K N, IsBytes x.2 := fun x hx => (laidT_wf okn (turnedL_mem hx)).2
theorem turned_le {K N : Rcs} {H : Nat} (okn : RcsOk N H) (hH : 2 ≤ H) : (turnedL K N).length ≤ H := by
  have := nodup_lt_int H ((turnedL K N).map Prod.fst) ((turnedL_keys K N).imp (fun {a b} h => by omega)) (fun k hk => by
    obtain ⟨x, hx, rfl⟩ := List.mem_map.1 hk
    exact laidT_rng okn (by omega) (by rw [turnedL_mem hx]; rfl))
  simpa using this
theorem turned_length (K N : Rcs) : (turnedL K N).length ≤ 4200 := by
  have key : ∀ l : List Int, (l.flatMap (turnedE K N)).length ≤ l.length := by
    intro l
    induction l with
    | nil => exact Nat.le_refl _
    | cons a r ih =>
      rw [List.flatMap_cons, List.length_append, List.length_cons]
      have : (turnedE K N a).length ≤ 1 := by unfold turnedE; split <;> simp
      omega
  exact Nat.le_trans (key _) (homeKeys_length _ _)
theorem putL_none : ∀ (l : List Ent) (t : Tkn) (k : Int), k ∉ l.map Prod.fst → putL t l k = t k
  | [], t, k, _ => rfl
  | x :: r, t, k, h => by
    have h1 : k ≠ x.1 := fun e => h (by simp [e])
    show putL (putE t x) r k = t k
    rw [putL_none r _ k (fun hm => h (by simp only [List.map_cons, List.mem_cons]; exact .inr hm))]
    unfold putE
    rw [if_neg h1]
theorem putL_mem : ∀ (l : List Ent) (t : Tkn), (l.map Prod.fst).Nodup → ∀ x ∈ l, putL t l x.1 = some x.2
  | [], t, _, x, h => by cases h
  | y :: r, t, hn, x, h => by
    have h2 := List.nodup_cons.1 hn
    show putL (putE t y) r x.1 = some x.2
    rcases List.mem_cons.1 h with rfl | h
    · rw [putL_none r _ _ h2.1]
      unfold putE
      rw [if_pos rfl]
    · exact putL_mem r _ h2.2 x h
/-- behind a Keep the home tracks bear the new records -/
theorem over_turned {K N : Rcs} {H : Nat} (okn : RcsOk N H) (hH : 2 ≤ H ∧ H ≤ 4095) {V : Nat → List Int} (hV : ∀ k z, laidT K k = some z → V k.toNat = z) : ∀ k z, laidT N k = some z → over (turnedL K N) k.toNat (V k.toNat) = z := by
  intro k z hz
  have hr := laidT_rng okn (by omega) (show (laidT N k).isSome by rw [hz]; rfl)
  have ek : ((k.toNat : Nat) : Int) = k := by omega
  unfold over
  rw [ek]
  have hk : k ∈ homeKeys (laidT N) 4200 := by rw [homeKeys_mem]; exact ⟨by omega, by rw [hz]; rfl⟩
  have hnd : ((turnedL K N).map Prod.fst).Nodup := (turnedL_keys K N).imp (fun {a b} h => by omega)
  by_cases e : laidT K k = laidT N k
  · have hno : k ∉ (turnedL K N).map Prod.fst := fun hm => by
      obtain ⟨x, hx, ex⟩ := List.mem_map.1 hm
      unfold turnedL at hx
      obtain ⟨q, hq, hx⟩ := List.mem_flatMap.1 hx
      unfold turnedE at hx
      split at hx
      · cases hx
      · rename_i hne
        obtain rfl := List.mem_singleton.1 hx
        simp only at ex
        subst ex
        exact hne e
    rw [putL_none _ _ _ hno]
    exact hV k z (e.trans hz)
  · have hm : (k, z) ∈ turnedL K N := by
      unfold turnedL
      refine List.mem_flatMap.2 ⟨k, hk, ?_⟩
      unfold turnedE
      rw [if_neg e, hz]
      exact List.mem_singleton.2 rfl
    rw [putL_mem _ _ hnd (k, z) hm]

/-- a vault that goes: its records are those of its maps; what was kept stands on the home tracks -/
structure VLive (w : World) (M : Dom) (B C : Nat → Prop) (d l mb v n : Nat) (lv : Int) (N : Nat) (V : Nat → List Int) (s : DS) (L : LS) (now kept : Rcs) : Prop where
  vs : VSys w M B C d l mb v s L now kept
  live : Live w M B d l mb n lv N V s L
  okn : RcsOk now (homes n lv)
  okk : RcsOk kept (homes n lv)
  hH : 2 ≤ homes n lv ∧ homes n lv ≤ 600
  view : ∀ k z, laidT kept k = some z → V k.toNat = z
theorem VLive.below {w w' : World} {M : Dom} {B C : Nat → Prop} {d l mb v n : Nat} {lv : Int} {N : Nat} {V : Nat → List Int} {s : DS} {L : LS} {now kept : Rcs} (h : VLive w M B C d l mb v n lv N V s L now kept) (k : Below w.heap.size w w') : VLive w' M B C d l mb v n lv N V s L now kept :=
  ⟨h.vs.below k, h.live.below k, h.okn, h.okk, h.hH, h.view⟩
theorem VLive.lost {w : World} {M : Dom} {B C : Nat → Prop} {d l mb v n : Nat} {lv : Int} {N : Nat} {V : Nat → List Int} {s : DS} {L : LS} {now kept : Rcs} (h : VLive w M B C d l mb v n lv N V s L now kept) : L.lost = false := by
  obtain ⟨P, f⟩ := h.live.full
  exact f.lost
/-- the vault's own step on a ledger that goes -/
theorem VLive.own {w w' : World} {M M' : Dom} {B C C' : Nat → Prop} {d l mb v n : Nat} {lv : Int} {N : Nat} {V : Nat → List Int} {s : DS} {L : LS} {now kept now' : Rcs} (h : VLive w M B C d l mb v n lv N V s L now kept) (k : VSys w' M' B C' d l mb v s L now' kept) (okn : RcsOk now' (homes n lv)) : VLive w' M' B C' d l mb v n lv N V s L now' kept :=
  ⟨k, ⟨k.sys, h.live.full, h.live.n, h.live.leaves, h.live.up, h.live.round, h.live.last, h.live.v⟩, okn, h.okk, h.hH, h.view⟩

/-- what was kept is new -/
theorem VSys.rekept {w w1 : World} {M : Dom} {B C : Nat → Prop} {d l mb v d1 t1 d2 t2 dn tn : Nat} {s : DS} {L : LS} {now kept R : Rcs} (h : VSys w M B C d l mb v s L now kept) (hv : VltP w M B C v l d1 t1 d2 t2 now kept) (B1 : Below w.heap.size w w1) (ob : w1.heap[v]? = some (.cells (vltCells l d1 t1 d2 t2) 71 (0, 0)))
    (rp : RecP w1 (fun q => inD M q ∨ w.heap.size ≤ q) dn tn R) (ld : w.heap.size ≤ dn) (lt : w.heap.size ≤ tn) :
    VSys ((w1.setCell ⟨v, 3, none⟩ (.map (some dn))).setCell ⟨v, 4, none⟩ (.map (some tn))) (M.addX fun q => q = dn ∨ q = tn) B (fun q => C q ∨ q = dn ∨ q = tn) d l mb v s L now R ∧
      VStep M C w (M.addX fun q => q = dn ∨ q = tn) (fun q => C q ∨ q = dn ∨ q = tn) ((w1.setCell ⟨v, 3, none⟩ (.map (some dn))).setCell ⟨v, 4, none⟩ (.map (some tn))) := by
  have XS : Ext (fun q => q = v) w1 ((w1.setCell ⟨v, 3, none⟩ (.map (some dn))).setCell ⟨v, 4, none⟩ (.map (some tn))) := Ext.set.trans Ext.set (fun i _ h => h)
  have XE : Ext (fun q => q = v) w ((w1.setCell ⟨v, 3, none⟩ (.map (some dn))).setCell ⟨v, 4, none⟩ (.map (some tn))) := (Ext.of_below B1 _).trans XS (fun i _ h => h)
  have obj2 : ((w1.setCell ⟨v, 3, none⟩ (.map (some dn))).setCell ⟨v, 4, none⟩ (.map (some tn))).heap[v]? = some (.cells (vltCells l d1 t1 dn tn) 71 (0, 0)) := blk_setCell (blk_setCell ob _) _
  obtain ⟨w2, hw2⟩ : ∃ w2, ((w1.setCell ⟨v, 3, none⟩ (.map (some dn))).setCell ⟨v, 4, none⟩ (.map (some tn))) = w2 := ⟨_, rfl⟩
  rw [hw2] at XS XE obj2 ⊢
  have rl := rp.lt
  have sz := XS.size
  have hvC := hv.cx v hv.cv
  have hCn : ∀ q, C q → q < w.heap.size := fun q hq => (hv.cx q hq).2
  have hD : ∀ q, inD (M.addX fun q => q = dn ∨ q = tn) q → inD M q ∨ w.heap.size ≤ q := fun q hq => hq.elim (fun h => .inl (.inl h)) (fun h => h.elim (fun h => .inl (.inr h)) (fun h => .inr (by omega)))
  refine ⟨⟨h.sys.otherG (F := fun q => q = v) XE (fun q hq => by subst hq; exact hvC.1.1) (fun q hq => by subst hq; exact ⟨hvC.1.2.1, hvC.1.2.2⟩) (fun q hq => by omega), d1, t1, dn, tn, ⟨obj2, ?_, ?_, ?_, .inl hv.cv, ⟨⟨.inl hv.cs.1.1, .inl hv.cs.1.2⟩, .inr (.inl rfl), .inr (.inr rfl)⟩, fun q hq => ?_⟩⟩, ⟨XE.mono (fun i _ h => by subst h; exact hv.cv), rfl, fun q hq => hq.imp (fun h => h) (fun h => by omega), fun q hq => hq.imp (fun h => h) (fun h => by omega), fun q hq => .inl hq⟩⟩
  · exact hv.now.step XE (fun q hq => by subst hq; exact .inr hvC.1.1) hv.ne.1.1 hv.ne.1.2 (fun q hq => hD q hq)
  · exact rp.step XS (fun q hq => by subst hq; exact .inl (.inr hvC.1.1)) (by have := hvC.2; omega) (by have := hvC.2; omega) (fun q hq => (hD q hq).elim (fun h => .inl (.inl h)) (fun h => .inl (.inr h)))
  · have := hCn d1 hv.cs.1.1
    have := hCn t1 hv.cs.1.2
    omega
  · have key : q < w.heap.size ∧ C q ∨ (q = dn ∨ q = tn) := hq.imp (fun h => ⟨hCn q h, h⟩) (fun h => h)
    rcases key with ⟨h1, h2⟩ | h'
    · have := hv.cx q h2
      exact ⟨⟨.inl this.1.1, this.1.2⟩, by have := XE.size; omega⟩
    · refine ⟨⟨.inr h', fun hm => ?_, fun hb => ?_⟩, by omega⟩
      · have := h.sys.drum.ml q hm; omega
      · have := h.sys.led.bs q hb; omega

/-- what a Keep answers -/
def KeepAns (w : World) (M : Dom) (B C : Nat → Prop) (d l v n : Nat) (lv : Int) (N : Nat) (V : Nat → List Int) (s : DS) (L : LS) (now kept : Rcs) (e : Ending) (w' : World) : Prop :=
  ∃ M' B' C' mb' s' L' V', LStep M (fun q => B q ∨ C q) w M' (fun q => B' q ∨ C' q) w' ∧
    ((turnedL kept now = [] ∧ e = .returned (.int .i64 0) ∧ s' = s ∧ L' = L ∧ VLive w' M' B' C' d l mb' v n lv N V' s' L' now now) ∨
     (leavesN (turnedL kept now).length ≤ lv ∧ e = .returned (.int .i64 0) ∧ VLive w' M' B' C' d l mb' v n lv (N + 1) V' s' L' now now) ∨
     (lv < leavesN (turnedL kept now).length ∧ e = .returned (.int .i64 5) ∧ VLive w' M' B' C' d l mb' v n lv (N + 1) V' s' L' kept kept))

set_option maxRecDepth 100000 in
set_option maxHeartbeats 8000000 in
theorem keepU {w : World} {M : Dom} {B C : Nat → Prop} {d l mb v n : Nat} {lv : Int} {N : Nat} {V : Nat → List Int} {s : DS} {L : LS} {now kept : Rcs} (h : VLive w M B C d l mb v n lv N V s L now kept) (hN : N ≤ 1000) :
    Calls Tryz.prog 17 #[.pointer (some ⟨v, 0, none⟩)] w (KeepAns w M B C d l v n lv N V s L now kept) := by
  have HV := hid h
  have hH := h.hH
  have LO := lostV_any h.vs
  rw [h.lost] at LO
  have TU := turnedV_any h.vs ⟨hH.1, by omega⟩ h.okn h.okk
  obtain ⟨d1, t1, d2, t2, h2⟩ := h.vs.out
  obtain ⟨c0, c1, c2, c3, c4⟩ := h2.cells
  have lvw := lt_of_cell c0
  obtain ⟨el, hel⟩ : ∃ el, turnedL kept now = el := ⟨_, rfl⟩
  rw [hel] at TU
  have HEL := hid hel
  have ELB := hid (show el.length ≤ 600 by rw [← hel]; have := turned_le (K := kept) h.okn hH.1; omega)
  clear h h2 hel
  go_enter Tryz.func17, Tryz.ntmps17
  go_wp2_with fail
  refine LO.mono ?_
  rintro e w1 ⟨rfl, rfl⟩
  clear LO
  go_wp2_with fail
  refine TU.mono ?_
  rintro e w2 ⟨u, rfl, EO, B2⟩
  clear TU
  obtain ⟨a, c, rfl, EA, hlc⟩ := EO.out (N := inD M) (fun q hq _ => by
    rcases Nat.lt_or_ge q w.heap.size with h | h
    · exact h
    · exact absurd hq (HV.out.vs.free h))
  have HB2 := hid B2
  have HV2 := hid (HV.out.below B2)
  have HEA := hid EA
  have k0 := Below.cellAt B2 lvw c0
  obtain ⟨m, hm⟩ : ∃ m, el.length = m := ⟨_, rfl⟩
  have HM := hid hm
  rw [hm]
  have HC := hid hlc
  clear EO B2 EA hlc hm
  by_cases hm0 : m = 0
  · subst hm0
    have hnil := hid (show turnedL kept now = [] by rw [HEL.out]; exact List.eq_nil_of_length_eq_zero HM.out)
    go_wp2_with fail
    go_ret
    have enk := turned_nil HV.out.okk HV.out.okn ⟨hH.1, by omega⟩ hnil.out
    refine ⟨M, B, C, mb, s, L, V, LStep.of_below HB2.out, .inl ⟨hnil.out, rfl, rfl, rfl, ?_⟩⟩
    rw [← enk] at HV2
    exact HV2.out
  · have hm1 : ((m : Int) == 0) = false := by simp; omega
    have WU := writeU HV2.out.live hN a m c el (by rw [← HM.out]; exact HEA.out) (by rw [← HM.out]; exact ELB.out) (by rw [← HEL.out]; exact turned_bytes HV.out.okn)
    go_wp2_with fail
    refine WU.mono ?_
    have hne : turnedL kept now ≠ [] := by
      rw [HEL.out]
      intro e
      rw [e] at HM
      exact hm0 HM.out.symm
    have hmay := turned_may (K := kept) HV.out.okn hH.1 hne
    rw [HEL.out] at hmay
    have HMAY := hid hmay
    clear WU hne hmay
    rintro e w3 ⟨M3, B3, mb3, s3, L3, T3, ⟨hf, -⟩ | ⟨-, hbig, rfl, LV3⟩ | ⟨-, hfit, rfl, LV3⟩⟩
    · rw [HMAY.out] at hf; cases hf
    · have VS3 := hid (HV2.out.vs.lstep LV3.sys T3)
      have VL3 := hid (show VLive w3 M3 B3 C d l mb3 v n lv (N + 1) V s3 L3 now kept from ⟨VS3.out, LV3, HV.out.okn, HV.out.okk, hH, HV.out.view⟩)
      have T3H := hid (((LStep.of_below HB2.out).trans T3).vault (C := C))
      have HBIG := hid hbig
      have UN := undoV_any VS3.out HV.out.okk
      clear LV3 T3 hbig
      go_wp2_with fail
      refine UN.mono ?_
      rintro e w4 ⟨rfl, M4, C4, VS4, ST4⟩
      have VS4H := hid VS4
      have ST4H := hid (ST4.vault (B := B3))
      clear UN VS4 ST4
      go_wp2_with fail
      go_ret
      exact ⟨M4, B3, C4, mb3, s3, L3, V, T3H.out.trans ST4H.out, .inr (.inr ⟨by rw [HEL.out]; exact HBIG.out, rfl, VL3.out.own VS4H.out HV.out.okk⟩)⟩
    · have VS3 := hid (HV2.out.vs.lstep LV3.sys T3)
      have VIEW := hid (over_turned HV.out.okn ⟨hH.1, by omega⟩ HV.out.view)
      have LV3H := hid LV3
      have T3H := hid (((LStep.of_below HB2.out).trans T3).vault (C := C))
      have HFIT := hid hfit
      obtain ⟨e1, e2, e3, e4, h3⟩ := VS3.out.out
      obtain ⟨f0, f1, f2, f3, f4⟩ := h3.cells
      have CO := copied_any h3.now (fun x hx => by
        cases hn : now x with
        | none => rw [hn] at hx; cases hx
        | some y => have := HV.out.okn.id x y hn; omega)
      have H3 := hid h3
      clear LV3 T3 hfit h3 k0
      go_wp2_with fail
      refine CO.mono ?_
      rintro e w4 ⟨dn, tn, rfl, ld, lt, RP, B4⟩
      clear CO
      have obj1 : w4.heap[v]? = some (.cells (vltCells l e1 e2 e3 e4) 71 (0, 0)) := (Ext.of_below B4 (fun _ => False)).blk (fun h => h) H3.out.obj
      have g3 := blk_cell (o := 3) (v := .map (some e3)) obj1 rfl
      have g4 := blk_cell (o := 4) (v := .map (some e4)) obj1 rfl
      have fr := fun o => blk_free (o := o) obj1
      have HRP := hid RP
      have OB := hid obj1
      have HB4 := hid B4
      clear obj1 RP B4 f0 f1 f2 f3 f4
      go_wp2_with fail
      go_ret
      obtain ⟨VF, ST⟩ := VSys.rekept VS3.out H3.out HB4.out OB.out HRP.out ld lt
      refine ⟨M3.addX fun q => q = dn ∨ q = tn, B3, fun q => C q ∨ q = dn ∨ q = tn, mb3, s3, L3, _, T3H.out.trans (ST.vault (B := B3)), .inr (.inl ⟨by rw [HEL.out]; exact HFIT.out, rfl, ⟨VF, ⟨VF.sys, LV3H.out.full, LV3H.out.n, LV3H.out.leaves, LV3H.out.up, LV3H.out.round, LV3H.out.last, LV3H.out.v⟩, HV.out.okn, HV.out.okn, hH, ?_⟩⟩)⟩
      have := VIEW.out
      rw [HEL.out] at this
      exact this

end Go.Proofs.YtleoelhhndeheaaGreat

/- package vault: Open, Found -/
open Go Go.RowKit
open Go.Maps (Keyed has)
namespace Go.Proofs.YtleoelhhndeheaaGreat

theorem lookZ_view {w : World} {M : Dom} {B : Nat → Prop} {d l mb n : Nat} {lv : Int} {N : Nat} {V : Nat → List Int} {s : DS} {L : LS} (h : Live w M B d l mb n lv N V s L) {k : Int} (hk : 0 ≤ k ∧ k < homes n lv) : L.lookZ s k = V k.toNat := by
  obtain ⟨P, f⟩ := h.full
  have hk2 : k.toNat < L.H s := by rw [h.H]; omega
  have hl := f.g.ok.l
  have e1 : L.lookC s k = 0 := by unfold LS.lookC; rw [if_pos ⟨hk.1, by omega⟩, f.lost, f.g.up.broken]; simp
  rw [← h.v k.toNat hk2]
  unfold LS.lookZ view
  rw [if_pos e1, show ((k.toNat : Nat) : Int) = k by omega]
  cases hh : L.taken k with
  | some z => rfl
  | none => show s.now _ = _; congr 1; omega
theorem Live.rd {w : World} {M : Dom} {B : Nat → Prop} {d l mb n : Nat} {lv : Int} {N : Nat} {V : Nat → List Int} {s : DS} {L : LS} (h : Live w M B d l mb n lv N V s L) : Rd w M B d l mb s L (homes n lv) := by
  obtain ⟨P, f⟩ := h.full
  refine ⟨h.sys, h.ok, f.lost, f.g.up.broken, h.H, fun k hk => ?_⟩
  rw [lookZ_view h hk]
  exact h.wf (by omega)
theorem loadV_view {w : World} {M : Dom} {B : Nat → Prop} {d l mb n : Nat} {lv : Int} {N : Nat} {V : Nat → List Int} {s : DS} {L : LS} (h : Live w M B d l mb n lv N V s L) (hH : 2 ≤ homes n lv ∧ homes n lv ≤ 4095) {R : Rcs} (ok : RcsOk R (homes n lv)) (hV : ∀ k z, laidT R k = some z → V k.toNat = z) : loadV (L.lookZ s) (homes n lv) = some R :=
  loadV_laid ok hH.2 fun k z hz => by
    have hr := laidT_rng ok (by omega) (show (laidT R k).isSome by rw [hz]; rfl)
    rw [lookZ_view h hr]
    exact hV k z hz

/-- a vault that was made -/
theorem VSys.made {w1 w2 wq wf : World} {M : Dom} {B : Nat → Prop} {d l mb dm tm dn tn b0 : Nat} {s : DS} {L : LS} {R : Rcs} (h : Sys w1 M B d l mb s L) (B2 : Below w1.heap.size w1 w2) (hd : w1.heap.size ≤ dm) (ht : w1.heap.size ≤ tm) (rp : RecP w2 (fun q => q < w1.heap.size ∨ q = dm ∨ q = tm) dm tm R)
    (BQ : Below w2.heap.size w2 wq) (rc : RecP wq (fun q => (q < w1.heap.size ∨ q = dm ∨ q = tm) ∨ b0 ≤ q) dn tn R) (BF : Below wq.heap.size wq wf) (hsz : wq.heap.size < wf.heap.size) (hn : b0 ≤ dn ∧ b0 ≤ tn) (hb0 : w2.heap.size ≤ b0) (ob : wf.heap[wq.heap.size]? = some (.cells (vltCells l dm tm dn tn) 71 (0, 0))) :
    VSys wf (M.addX fun q => q = wq.heap.size ∨ (q = dm ∨ q = tm) ∨ q = dn ∨ q = tn) B (fun q => q = wq.heap.size ∨ (q = dm ∨ q = tm) ∨ q = dn ∨ q = tn) d l mb wq.heap.size s L R R ∧
      VStep M (fun _ => False) w1 (M.addX fun q => q = wq.heap.size ∨ (q = dm ∨ q = tm) ∨ q = dn ∨ q = tn) (fun q => q = wq.heap.size ∨ (q = dm ∨ q = tm) ∨ q = dn ∨ q = tn) wf := by
  have r1 := rp.lt
  have r2 := rc.lt
  have s2 := B2.size
  have sq := BQ.size
  have BA : Below w1.heap.size w1 wf := (B2.trans (BQ.mono s2)).trans (BF.mono (by omega))
  have hG : ∀ q, (q = wq.heap.size ∨ (q = dm ∨ q = tm) ∨ q = dn ∨ q = tn) → w1.heap.size ≤ q ∧ q < wf.heap.size := fun q hq => by omega
  have hml : ∀ q, inD M q → q < w1.heap.size := fun q hq => by
    obtain ⟨p, -, D⟩ := h.drum
    exact hq.elim (D.ml q) (D.xl q)
  have hD : ∀ q, inD (M.addX fun q => q = wq.heap.size ∨ (q = dm ∨ q = tm) ∨ q = dn ∨ q = tn) q → q < w1.heap.size ∨ (q = wq.heap.size ∨ (q = dm ∨ q = tm) ∨ q = dn ∨ q = tn) := fun q hq => hq.elim (fun h => .inl (hml q (.inl h))) (fun h => h.elim (fun h => .inl (hml q (.inr h))) .inr)
  refine ⟨⟨h.otherG (F := fun _ => False) (Ext.of_below BA _) (fun q hq => hq.elim) (fun q hq => hq.elim) hG, dm, tm, dn, tn, ⟨ob, ?_, ?_, by omega, .inl rfl, ⟨⟨.inr (.inl (.inl rfl)), .inr (.inl (.inr rfl))⟩, .inr (.inr (.inl rfl)), .inr (.inr (.inr rfl))⟩, fun q hq => ?_⟩⟩, ⟨(Ext.of_below BA _), rfl, fun q hq => .inr (hG q hq).1, fun q hq => hq.imp (fun h => h) (fun h => (hG q h).1), fun q hq => .inl hq⟩⟩
  · exact (rp.step (D' := inD (M.addX fun q => q = wq.heap.size ∨ (q = dm ∨ q = tm) ∨ q = dn ∨ q = tn)) (Ext.refl (fun _ => False) _) (fun _ h => h.elim) (fun h => h) (fun h => h) (fun q hq => by have := hD q hq; omega)).below (BQ.trans (BF.mono sq)) (Nat.le_refl _)
  · exact rc.step (Ext.of_below BF (fun _ => False)) (fun _ h => h.elim) (fun h => h) (fun h => h) (fun q hq => by have := hD q hq; omega)
  · refine ⟨⟨.inr hq, fun hm => ?_, fun hb => ?_⟩, (hG q hq).2⟩
    · have := hml q (.inl hm); have := (hG q hq).1; omega
    · have := h.led.bs q hb; have := (hG q hq).1; omega
theorem LStep.made {w w1 w' : World} {M M1 M' : Dom} {B1 C' : Nat → Prop} (k : LStep M none' w M1 B1 w1) (h : VStep M1 (fun _ => False) w1 M' C' w') : LStep M none' w M' (fun q => B1 q ∨ C' q) w' := by
  have k2 := h.vault (B := B1)
  have hs := k.ext.size
  refine ⟨k.ext.trans h.ext (fun i _ h => h.elim), fun q hq => ?_, fun q hq => ?_, fun q hq => ?_, fun q hq => h.oldX q (k.oldX q hq)⟩
  · exact k.new q (by rw [h.m] at hq; exact hq)
  · rcases hq with hq | hq
    · exact k.newB q hq
    · exact .inr (by have := (h.newC q hq).elim (fun h => h.elim) (fun h => h); omega)
  · exact (h.newX q hq).elim (k.newX q) (fun e => .inr (by omega))

/-- what an opening answers: P speaks of the ledger that it opened -/
def OpenV (w : World) (M : Dom) (d H : Nat) (P : Dom → (Nat → Prop) → Nat → Nat → DS → LS → Prop) (e : Ending) (w' : World) : Prop :=
  ∃ M' B' C' l mb s L, LStep M none' w M' (fun q => B' q ∨ C' q) w' ∧ P M' B' l mb s L ∧
    ((∃ R v, loadV (L.lookZ s) H = some R ∧ e = .returned (.tuple #[.pointer (some ⟨v, 0, none⟩), .int .i64 0]) ∧ VSys w' M' B' C' d l mb v s L R R ∧ RcsOk R H) ∨
     (loadV (L.lookZ s) H = none ∧ e = .returned (.tuple #[.pointer none, .int .i64 11]) ∧ Sys w' M' B' d l mb s L))

set_option maxRecDepth 100000 in
set_option maxHeartbeats 8000000 in
theorem openV_any {w : World} {M : Dom} {d H : Nat} {P : Dom → (Nat → Prop) → Nat → Nat → DS → LS → Prop} (hP : ∀ M B l mb s L F, P M B l mb s L → P (M.addX F) B l mb s L)
    (OP : Calls Tryz.prog 48 #[.pointer (some ⟨d, 0, none⟩)] w fun e w' => ∃ M' B' l mb s L, e = .returned (.tuple #[.pointer (some ⟨l, 0, none⟩), .int .i64 0]) ∧ LStep M none' w M' B' w' ∧ Rd w' M' B' d l mb s L H ∧ P M' B' l mb s L) :
    Calls Tryz.prog 18 #[.pointer (some ⟨d, 0, none⟩)] w (OpenV w M d H P) := by
  have HPX := hid hP
  clear hP
  go_enter Tryz.func18, Tryz.ntmps18
  go_wp2_with fail
  refine OP.mono ?_
  rintro e w1 ⟨M1, B1, l, mb, s, L, rfl, T1, RD, p1⟩
  clear OP
  have LD := load_any RD
  have HRD := hid RD
  have HT1 := hid T1
  have HP1 := hid p1
  clear RD T1 p1
  go_wp2_with fail
  refine LD.mono ?_
  rintro e w2 ⟨B2, dm, tm, hd, ht, ⟨R, hlo, rfl, RP, ok⟩ | ⟨hlo, rfl⟩⟩
  · clear LD
    have HLO := hid hlo
    have HRP := hid RP
    have OKR := hid ok
    have HB2 := hid B2
    have CO := fun (W : World) (RPW : RecP W (fun q => q < w1.heap.size ∨ q = dm ∨ q = tm) dm tm R) => copied_any RPW (fun x hx => by
      cases hn : R x with
      | none => rw [hn] at hx; cases hx
      | some y => have := ok.id x y hn; omega)
    clear hlo RP ok B2
    obtain ⟨x0, hx0⟩ : ∃ x0, w2.heap.size = x0 := ⟨_, rfl⟩
    obtain ⟨W0, hW0⟩ : ∃ W0, w2.alloc (.cells #[.map (some dm), .map (some tm)] 68) = W0 := ⟨_, rfl⟩
    have BW0 : Below w2.heap.size w2 W0 := by rw [← hW0]; exact (Below.refl _ _).alloc (Nat.le_refl _) _
    have y0 : W0.cell? ⟨x0, 0, none⟩ = some (.map (some dm)) := by rw [← hW0, ← hx0]; exact blk_cell (blk_new _ _) rfl
    have y1 : W0.cell? ⟨x0, 1, none⟩ = some (.map (some tm)) := by rw [← hW0, ← hx0]; exact blk_cell (blk_new _ _) rfl
    have SB : ∀ W, Below W0.heap.size W0 W → W.cell? ⟨x0, 0, none⟩ = some (.map (some dm)) ∧ W.cell? ⟨x0, 1, none⟩ = some (.map (some tm)) := fun W k => ⟨Below.cellAt k (lt_of_cell y0) y0, Below.cellAt k (lt_of_cell y1) y1⟩
    have RP0 := hid (HRP.out.below BW0 (Nat.le_refl _))
    have HBW0 := hid BW0
    have HX0 := hid hx0
    clear BW0
    go_wp2_with fail
    refine wp_region_held_drew (S := fun W => W.cell? ⟨x0, 0, none⟩ = some (.map (some dm)) ∧ W.cell? ⟨x0, 1, none⟩ = some (.map (some tm))) (by kernel_rfl) (SB _ ((Below.refl W0.heap.size W0).drew)) (fun hHeld => ?_)
    refine wpAnyH_take (i := 0) (v := ?v1) (by simp only [List.getElem?_toArray, List.getElem?_cons_zero]; rfl) (by kernel_rfl) (by kernel_rfl) (by kernel_rfl) (by exact fun _ _ _ h => h) (Or.inl ⟨by rfl, ?h1⟩) (by assumption) ?r1
    case h1 => (intro w hSw; (try dsimp only at hSw); go_simp; try with_reducible rfl)
    try simp only [Act.put, List.setIfInBounds_toArray, List.set_cons_zero, List.set_cons_succ]
    refine wpAnyH_take (i := 1) (v := ?v2) (by simp only [List.getElem?_toArray, List.getElem?_cons_zero, List.getElem?_cons_succ]; rfl) (by kernel_rfl) (by kernel_rfl) (by kernel_rfl) (by exact fun _ _ _ h => h) (Or.inl ⟨by rfl, ?h2⟩) (by assumption) ?r2
    case h2 => (intro w hSw; (try dsimp only at hSw); go_simp; try with_reducible rfl)
    try simp only [Act.put, List.setIfInBounds_toArray, List.set_cons_zero, List.set_cons_succ]
    refine wpAnyH_take (i := 2) (v := ?v3) (by simp only [List.getElem?_toArray, List.getElem?_cons_zero, List.getElem?_cons_succ]; rfl) (by kernel_rfl) (by kernel_rfl) (by kernel_rfl) (by exact fun _ _ _ h => h) (Or.inl ⟨by rfl, ?h3⟩) (by assumption) ?r3
    case h3 => (intro w hSw; (try dsimp only at hSw); go_simp; try with_reducible rfl)
    try simp only [Act.put, List.setIfInBounds_toArray, List.set_cons_zero, List.set_cons_succ]
    refine wpAnyH_ready (rs := [3]) (by kernel_rfl) (by simp) ?_
    refine (AllReadyH.cons (by simp only [List.getElem?_toArray, List.getElem?_cons_zero, List.getElem?_cons_succ]; rfl) (fun K hK => ?_) AllReadyH.nil)
    go_simp
    go_at_call 47
    refine (CO _ (RP0.out.below ((Below.refl W0.heap.size W0).drew) (Nat.le_refl _))).mono ?_
    rintro e wq4 ⟨d4, t4, rfl, ld4, lt4, RP4, C4⟩
    have BB4 := ((Below.refl W0.heap.size W0).drew).trans (C4.mono (Below.size ((Below.refl W0.heap.size W0).drew)))
    refine hK.out _ _ (SB _ BB4) (fun hH5 => ?_)
    clear hK
    try simp only [Act.put, List.setIfInBounds_toArray, List.set_cons_zero, List.set_cons_succ]
    refine wpAnyH_take (i := 4) (v := ?v6) (by simp only [List.getElem?_toArray, List.getElem?_cons_zero, List.getElem?_cons_succ]; rfl) (by kernel_rfl) (by kernel_rfl) (by kernel_rfl) (by exact fun _ _ _ h => h) (Or.inl ⟨by rfl, ?h6⟩) (by assumption) ?r6
    case h6 => (intro w hSw; (try dsimp only at hSw); go_simp; try with_reducible rfl)
    try simp only [Act.put, List.setIfInBounds_toArray, List.set_cons_zero, List.set_cons_succ]
    refine wpAnyH_ready (rs := [5]) (by kernel_rfl) (by simp) ?_
    refine (AllReadyH.cons (by simp only [List.getElem?_toArray, List.getElem?_cons_zero, List.getElem?_cons_succ]; rfl) (fun K hK => ?_) AllReadyH.nil)
    go_simp
    have BB7 := (BB4).alloc (Below.size (BB4)) (.cells (vltCells l dm tm d4 t4) 71)
    refine hK.out _ _ (SB _ BB7) (fun hH8 => ?_)
    clear hK
    try simp only [Act.put, List.setIfInBounds_toArray, List.set_cons_zero, List.set_cons_succ]
    refine wpAnyH_take (i := 6) (v := ?v9) (by simp only [List.getElem?_toArray, List.getElem?_cons_zero, List.getElem?_cons_succ]; rfl) (by kernel_rfl) (by kernel_rfl) (by kernel_rfl) (by exact fun _ _ _ h => h) (Or.inl ⟨by rfl, ?h9⟩) (by assumption) ?r9
    case h9 => (intro w hSw; (try dsimp only at hSw); go_simp; try with_reducible rfl)
    try simp only [Act.put, List.setIfInBounds_toArray, List.set_cons_zero, List.set_cons_succ]
    refine wpAnyH_take (i := 7) (v := ?v10) (by simp only [List.getElem?_toArray, List.getElem?_cons_zero, List.getElem?_cons_succ]; rfl) (by kernel_rfl) (by kernel_rfl) (by kernel_rfl) (by exact fun _ _ _ h => h) (Or.inl ⟨by rfl, ?h10⟩) (by assumption) ?r10
    case h10 => (intro w hSw; (try dsimp only at hSw); go_simp; try with_reducible rfl)
    try simp only [Act.put, List.setIfInBounds_toArray, List.set_cons_zero, List.set_cons_succ]
    refine wpAnyH_done (by kernel_rfl) ?_ _
    obtain ⟨wf, hwf⟩ : ∃ w', (wq4.alloc (.cells (vltCells l dm tm d4 t4) 71)) = w' := ⟨_, rfl⟩
    have BF := hid (BB7)
    have OBF := hid (show wf.heap[wq4.heap.size]? = some (.cells (vltCells l dm tm d4 t4) 71 (0, 0)) by rw [← hwf]; exact blk_new _ _)
    have BCF := hid (show Below wq4.heap.size wq4 wf by rw [← hwf]; exact (Below.refl _ _).alloc (Nat.le_refl _) _)
    have SF := hid (show wq4.heap.size < wf.heap.size by rw [← hwf]; simp)
    rw [hwf] at BF ⊢
    have HRPc := hid RP4
    have LDT := hid (show W0.heap.size ≤ d4 ∧ W0.heap.size ≤ t4 from ⟨ld4, lt4⟩)
    have BQ := hid (show Below W0.heap.size W0 wq4 from BB4)
    clear RP4 ld4 lt4 hwf
    go_wp2_with fail
    go_ret2
    have HF := VSys.made HRD.out.sys HB2.out (hd : w1.heap.size ≤ dm) (ht : w1.heap.size ≤ tm) HRP.out (HBW0.out.trans (BQ.out.mono HBW0.out.size)) HRPc.out BCF.out SF.out LDT.out HBW0.out.size OBF.out
    exact ⟨_, _, _, l, mb, s, L, HT1.out.made HF.2, HPX.out _ _ _ _ _ _ _ HP1.out, .inl ⟨R, _, HLO.out, rfl, HF.1, OKR.out⟩⟩
  · clear LD
    have HLO := hid hlo
    have HB2 := hid (B2.alloc B2.size (.cells #[.map (some dm), .map (some tm)] 68))
    clear hlo B2
    go_wp2_with fail
    go_ret2
    exact ⟨M1, B1, fun _ => False, l, mb, s, L, ⟨(HT1.out.trans (LStep.of_below HB2.out)).ext, (HT1.out.trans (LStep.of_below HB2.out)).new, fun q h => h.elim (fun h => (HT1.out.trans (LStep.of_below HB2.out)).newB q h) (fun h => h.elim), (HT1.out.trans (LStep.of_below HB2.out)).newX, (HT1.out.trans (LStep.of_below HB2.out)).oldX⟩, HP1.out, .inr ⟨HLO.out, rfl, HRD.out.sys.below HB2.out⟩⟩

end Go.Proofs.YtleoelhhndeheaaGreat
