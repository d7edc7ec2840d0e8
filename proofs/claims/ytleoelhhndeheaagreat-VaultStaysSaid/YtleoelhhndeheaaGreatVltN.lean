import Derived.Test.YtleoelhhndeheaaGreatLedN
import Derived.Test.YtleoelhhndeheaaGreatLedJ
import Derived.Test.YtleoelhhndeheaaGreatVltI
import Derived.Test.YtleoelhhndeheaaGreatVltE
/- a drum and a ledger on it, beside others' writes -/
open Go Go.RowKit
namespace Go.Proofs.YtleoelhhndeheaaGreat

theorem Sys.otherG {w w' : World} {M : Dom} {B F G : Nat → Prop} {d l mb : Nat} {s : DS} {L : LS} (h : Sys w M B d l mb s L) (k : Ext F w w') (hX : ∀ q, F q → M.X q) (hN : ∀ q, F q → ¬ M q ∧ ¬ B q) (hG : ∀ q, G q → w.heap.size ≤ q ∧ q < w'.heap.size) : Sys w' (M.addX G) B d l mb s L :=
  ⟨h.drum.otherG k hX (fun q hq => (hN q hq).1) hG, ⟨k.blk (fun hf => (hN _ hf).2 h.led.bl) h.led.obj, h.led.tkn.step k (fun q hq => .inr (hX q hq)) (fun hf => (hN _ hf).2 h.led.bm) (fun q hq => hq.elim (fun h => .inl (.inl h)) (fun h => h.elim (fun h => .inl (.inr h)) (fun h => .inr (hG q h).1))), h.led.bl, h.led.bm, fun q hq => ⟨.inl (h.led.bx q hq).1, (h.led.bx q hq).2⟩, fun q hq => Nat.lt_of_lt_of_le (h.led.bs q hq) k.size⟩⟩

end Go.Proofs.YtleoelhhndeheaaGreat

/- package vault: a vault in memory -/
open Go Go.RowKit
open Go.Maps (Keyed has)
namespace Go.Proofs.YtleoelhhndeheaaGreat

abbrev vltCells (l d1 t1 d2 t2 : Nat) : Array Value := #[.pointer (some ⟨l, 0, none⟩), .map (some d1), .map (some t1), .map (some d2), .map (some t2)]
/-- a vault in block v over the ledger in block l; C: its own blocks that are written -/
structure VltP (w : World) (M : Dom) (B C : Nat → Prop) (v l d1 t1 d2 t2 : Nat) (now kept : Rcs) : Prop where
  obj : w.heap[v]? = some (.cells (vltCells l d1 t1 d2 t2) 71 (0, 0))
  now : RecP w (inD M) d1 t1 now
  kept : RecP w (inD M) d2 t2 kept
  nd : (d1 ≠ d2 ∧ d1 ≠ t2) ∧ t1 ≠ d2 ∧ t1 ≠ t2
  cv : C v
  cs : (C d1 ∧ C t1) ∧ C d2 ∧ C t2
  cx : ∀ q, C q → (M.X q ∧ ¬ M.M q ∧ ¬ B q) ∧ q < w.heap.size
/-- a drum, a ledger on it, a vault over it -/
structure VSys (w : World) (M : Dom) (B C : Nat → Prop) (d l mb v : Nat) (s : DS) (L : LS) (now kept : Rcs) : Prop where
  sys : Sys w M B d l mb s L
  out : ∃ d1 t1 d2 t2, VltP w M B C v l d1 t1 d2 t2 now kept
theorem VltP.ne {w : World} {M : Dom} {B C : Nat → Prop} {v l d1 t1 d2 t2 : Nat} {now kept : Rcs} (h : VltP w M B C v l d1 t1 d2 t2 now kept) : (d1 ≠ v ∧ t1 ≠ v) ∧ d2 ≠ v ∧ t2 ≠ v := by
  have key : ∀ b n T, IMap w b n T → b ≠ v := fun b n T hm e => by
    obtain ⟨es, c, hb⟩ := hm.blk
    rw [e, h.obj] at hb
    cases hb
  obtain ⟨V, U, h1, h2, -⟩ := h.now.out
  obtain ⟨V', U', h3, h4, -⟩ := h.kept.out
  exact ⟨⟨key _ _ _ h1, key _ _ _ h2⟩, key _ _ _ h3, key _ _ _ h4⟩
theorem VltP.cells {w : World} {M : Dom} {B C : Nat → Prop} {v l d1 t1 d2 t2 : Nat} {now kept : Rcs} (h : VltP w M B C v l d1 t1 d2 t2 now kept) :
    w.cell? ⟨v, 0, none⟩ = some (.pointer (some ⟨l, 0, none⟩)) ∧ w.cell? ⟨v, 1, none⟩ = some (.map (some d1)) ∧ w.cell? ⟨v, 2, none⟩ = some (.map (some t1)) ∧ w.cell? ⟨v, 3, none⟩ = some (.map (some d2)) ∧ w.cell? ⟨v, 4, none⟩ = some (.map (some t2)) :=
  ⟨blk_cell h.obj rfl, blk_cell h.obj rfl, blk_cell h.obj rfl, blk_cell h.obj rfl, blk_cell h.obj rfl⟩
/-- the ledger goes a step -/
theorem VltP.lstep {w w' : World} {M M' : Dom} {B B' C : Nat → Prop} {v l d1 t1 d2 t2 : Nat} {now kept : Rcs} (h : VltP w M B C v l d1 t1 d2 t2 now kept) (k : LStep M B w M' B' w') (hB : ∀ q, B q → M.X q) : VltP w' M' B' C v l d1 t1 d2 t2 now kept := by
  have hn : ∀ q, C q → ¬ (M q ∨ B q) := fun q hq hf => hf.elim (h.cx q hq).1.2.1 (h.cx q hq).1.2.2
  have hD : ∀ q, inD M' q → inD M q ∨ w.heap.size ≤ q := fun q hq => hq.elim (fun h => (k.new q h).imp .inl id) (fun h => (k.newX q h).imp .inr id)
  have hF : ∀ q, (M q ∨ B q) → inD M q := fun q hq => hq.imp id (hB q)
  refine ⟨k.ext.blk (hn _ h.cv) h.obj, h.now.step k.ext hF (hn _ h.cs.1.1) (hn _ h.cs.1.2) hD, h.kept.step k.ext hF (hn _ h.cs.2.1) (hn _ h.cs.2.2) hD, h.nd, h.cv, h.cs, fun q hq => ?_⟩
  have h2 := (h.cx q hq).2
  refine ⟨⟨k.oldX q (h.cx q hq).1.1, fun hm => ?_, fun hb => ?_⟩, Nat.lt_of_lt_of_le h2 k.ext.size⟩
  · exact (k.new q hm).elim (h.cx q hq).1.2.1 (fun e => by omega)
  · exact (k.newB q hb).elim (h.cx q hq).1.2.2 (fun e => by omega)
theorem VltP.below {w w' : World} {M : Dom} {B C : Nat → Prop} {v l d1 t1 d2 t2 : Nat} {now kept : Rcs} (h : VltP w M B C v l d1 t1 d2 t2 now kept) (k : Below w.heap.size w w') : VltP w' M B C v l d1 t1 d2 t2 now kept :=
  ⟨(Ext.of_below k (fun _ => False)).blk id h.obj, h.now.below k (Nat.le_refl _), h.kept.below k (Nat.le_refl _), h.nd, h.cv, h.cs, fun q hq => ⟨(h.cx q hq).1, Nat.lt_of_lt_of_le (h.cx q hq).2 k.size⟩⟩
theorem VSys.below {w w' : World} {M : Dom} {B C : Nat → Prop} {d l mb v : Nat} {s : DS} {L : LS} {now kept : Rcs} (h : VSys w M B C d l mb v s L now kept) (k : Below w.heap.size w w') : VSys w' M B C d l mb v s L now kept := by
  obtain ⟨d1, t1, d2, t2, h2⟩ := h.out
  exact ⟨h.sys.below k, d1, t1, d2, t2, h2.below k⟩
theorem VSys.lstep {w w' : World} {M M' : Dom} {B B' C : Nat → Prop} {d l mb mb' v : Nat} {s s' : DS} {L L' : LS} {now kept : Rcs} (h : VSys w M B C d l mb v s L now kept) (hs : Sys w' M' B' d l mb' s' L') (k : LStep M B w M' B' w') : VSys w' M' B' C d l mb' v s' L' now kept := by
  obtain ⟨d1, t1, d2, t2, h2⟩ := h.out
  exact ⟨hs, d1, t1, d2, t2, h2.lstep k (fun q hq => (h.sys.led.bx q hq).1)⟩
/-- the vault's own step: what was there of the drum, the ledger and others is as it was -/
structure VStep (M : Dom) (C : Nat → Prop) (w : World) (M' : Dom) (C' : Nat → Prop) (w' : World) : Prop where
  ext : Ext C w w'
  m : M'.M = M.M
  newC : ∀ q, C' q → C q ∨ w.heap.size ≤ q
  newX : ∀ q, M'.X q → M.X q ∨ w.heap.size ≤ q
  oldX : ∀ q, M.X q → M'.X q

theorem tracksV_any {w : World} {M : Dom} {B C : Nat → Prop} {d l mb v : Nat} {s : DS} {L : LS} {now kept : Rcs} (h : VSys w M B C d l mb v s L now kept) (ok : L.Lv s) :
    Calls Tryz.prog 27 #[.pointer (some ⟨v, 0, none⟩)] w fun e w' => e = .returned (.int .i64 ((L.H s : Nat) : Int)) ∧ w = w' := by
  obtain ⟨d1, t1, d2, t2, h2⟩ := h.out
  obtain ⟨c0, -⟩ := h2.cells
  have HO := home_any h.sys ok
  clear h h2
  go_enter Tryz.func27, Tryz.ntmps27
  go_wp2_with fail
  refine HO.mono ?_
  rintro e w1 ⟨rfl, rfl⟩
  clear HO
  go_wp2_with fail
  go_ret
  exact ⟨rfl, rfl⟩
theorem lostV_any {w : World} {M : Dom} {B C : Nat → Prop} {d l mb v : Nat} {s : DS} {L : LS} {now kept : Rcs} (h : VSys w M B C d l mb v s L now kept) :
    Calls Tryz.prog 33 #[.pointer (some ⟨v, 0, none⟩)] w fun e w' => e = .returned (.bool L.lost) ∧ w = w' := by
  obtain ⟨d1, t1, d2, t2, h2⟩ := h.out
  obtain ⟨c0, -⟩ := h2.cells
  have HO := lost_any h.sys
  clear h h2
  go_enter Tryz.func33, Tryz.ntmps33
  go_wp2_with fail
  refine HO.mono ?_
  rintro e w1 ⟨rfl, rfl⟩
  clear HO
  go_wp2_with fail
  go_ret
  exact ⟨rfl, rfl⟩
theorem settleV_any {w : World} {M : Dom} {B C : Nat → Prop} {d l mb v : Nat} {s : DS} {L : LS} {now kept : Rcs} (h : VSys w M B C d l mb v s L now kept) {Q : Int → World → Prop} (hq : Calls Tryz.prog 58 #[.pointer (some ⟨l, 0, none⟩)] w fun e w' => ∃ c, e = .returned (.int .i64 c) ∧ Q c w') :
    Calls Tryz.prog 31 #[.pointer (some ⟨v, 0, none⟩)] w fun e w' => ∃ c, e = .returned (.int .i64 c) ∧ Q c w' := by
  obtain ⟨d1, t1, d2, t2, h2⟩ := h.out
  obtain ⟨c0, -⟩ := h2.cells
  clear h h2
  go_enter Tryz.func31, Tryz.ntmps31
  go_wp2_with fail
  refine hq.mono ?_
  rintro e w1 ⟨x, rfl, q1⟩
  have HQ := hid q1
  clear hq q1
  go_wp2_with fail
  go_ret
  exact ⟨x, rfl, HQ.out⟩
theorem closeV_any {w : World} {M : Dom} {B C : Nat → Prop} {d l mb v : Nat} {s : DS} {L : LS} {now kept : Rcs} (h : VSys w M B C d l mb v s L now kept) {Q : Int → World → Prop} (hq : Calls Tryz.prog 50 #[.pointer (some ⟨l, 0, none⟩)] w fun e w' => ∃ c, e = .returned (.int .i64 c) ∧ Q c w') :
    Calls Tryz.prog 19 #[.pointer (some ⟨v, 0, none⟩)] w fun e w' => ∃ c, e = .returned (.int .i64 c) ∧ Q c w' := by
  obtain ⟨d1, t1, d2, t2, h2⟩ := h.out
  obtain ⟨c0, -⟩ := h2.cells
  clear h h2
  go_enter Tryz.func19, Tryz.ntmps19
  go_wp2_with fail
  refine hq.mono ?_
  rintro e w1 ⟨x, rfl, q1⟩
  have HQ := hid q1
  clear hq q1
  go_wp2_with fail
  go_ret
  exact ⟨x, rfl, HQ.out⟩

/-- a record's bytes -/
theorem getV_any {w : World} {M : Dom} {B C : Nat → Prop} {d l mb v : Nat} {s : DS} {L : LS} {now kept : Rcs} (h : VSys w M B C d l mb v s L now kept) {H : Nat} (ok : RcsOk now H) (id : Int) (hid' : -9223372036854775808 ≤ id ∧ id ≤ 9223372036854775807) :
    Calls Tryz.prog 25 #[.pointer (some ⟨v, 0, none⟩), .int .i64 id] w fun e w' => ∃ u, e = .returned (.tuple #[u, .bool (now id).isSome]) ∧ w'.ownsRow w.heap.size 5 1 u (now.bytes id).length (B8 (now.bytes id)) ∧ Below w.heap.size w w' := by
  obtain ⟨d1, t1, d2, t2, h2⟩ := h.out
  obtain ⟨-, c1, -⟩ := h2.cells
  obtain ⟨vb, -, lk, hh⟩ := h2.now.lookD id hid'
  have lk := lk w (Below.refl _ _)
  obtain ⟨a, c, e1, hrow, -, -, hn, -⟩ := hh.out
  rw [B8_length] at e1 hn
  subst e1
  have hbl : (now.bytes id).length ≤ 60000 := by
    cases hR : now id with
    | none => unfold Rcs.bytes; rw [hR]; exact Nat.zero_le _
    | some x => rw [bytes_of hR]; exact (ok.b id x hR).1
  have CL := cloneB_any a (now.bytes id).length c (now.bytes id) w hrow rfl (fun e => (hn e).1) (by omega)
  obtain ⟨bb, hbb⟩ : ∃ bb, (now id).isSome = bb := ⟨_, rfl⟩
  rw [hbb] at lk ⊢
  clear h h2 hh hbb
  go_enter Tryz.func25, Tryz.ntmps25
  go_wp2_with fail
  refine CL.mono ?_
  rintro e w1 ⟨u, rfl, o, B1⟩
  clear CL
  go_wp2_with fail
  go_ret2
  exact ⟨u, rfl, o, B1⟩

/-- the numbers of the records, in order -/
def idsOf (R : Rcs) : List Int := ids40.filter fun i => (R i).isSome
theorem idsV_any {w : World} {M : Dom} {B C : Nat → Prop} {d l mb v : Nat} {s : DS} {L : LS} {now kept : Rcs} (h : VSys w M B C d l mb v s L now kept) {H : Nat} (ok : RcsOk now H) :
    Calls Tryz.prog 24 #[.pointer (some ⟨v, 0, none⟩)] w fun e w' => ∃ u, e = .returned u ∧ w'.ownsRow w.heap.size 3 1 u (idsOf now).length (I8 (idsOf now)) ∧ Below w.heap.size w w' := by
  obtain ⟨d1, t1, d2, t2, h2⟩ := h.out
  obtain ⟨-, c1, -⟩ := h2.cells
  obtain ⟨V, U, hv, hu, hx⟩ := h2.now.out
  have hV : ∀ x, (V x).isSome = ((fun x => (now x).map (·.1)) x : Option (List Int)).isSome := fun x => by
    rcases hx x with ⟨e1, e2, -⟩ | ⟨b, l, v, u, e1, e2, -⟩
    · simp [e1, e2]
    · simp [e1, e2]
  have hv4 : IMap w d1 4096 V := hv.small (H := 4096) (fun x hx' => by
    rw [hV] at hx'
    cases hn : now x with
    | none => simp [hn] at hx'
    | some y => have := ok.id x y hn; omega)
  have hk : ∀ x, ((fun x => (now x).map (·.1)) x : Option (List Int)).isSome → 0 ≤ x ∧ x < (41 : Nat) := fun x hx' => by
    cases hn : now x with
    | none => simp [hn] at hx'
    | some y => have := ok.id x y hn; omega
  have ST := sorted_any (T := fun x => (now x).map (·.1)) hv4 hV 41 hk
  have hids : homeKeys (fun x => (now x).map (·.1)) 41 = idsOf now := by
    have h0 : (now 0) = none := by
      cases hn : now 0 with
      | none => rfl
      | some y => have := ok.id 0 y hn; omega
    unfold homeKeys idsOf ids40
    rw [show List.range 41 = 0 :: (List.range 40).map (· + 1) from by decide]
    rw [List.map_cons, List.filter_cons_of_neg (by simp [h0]), List.map_map]
    have e : ((fun (k : Nat) => (k : Int)) ∘ fun x => x + 1) = fun (k : Nat) => (k : Int) + 1 := by funext k; simp
    rw [e]
    refine List.filter_congr fun x _ => ?_
    simp
  rw [hids] at ST
  have KA := keys_any d1 w
  clear h h2 hv hu hx hV hv4 hk hids
  go_enter Tryz.func24, Tryz.ntmps24
  go_wp2_with fail
  refine KA.mono ?_
  rintro e w1 ⟨rfl, rfl⟩
  clear KA
  go_wp2_with fail
  refine ST.mono ?_
  rintro e w2 ⟨u, rfl, o, B1⟩
  clear ST
  go_wp2_with fail
  go_ret
  exact ⟨u, rfl, o, B1⟩

end Go.Proofs.YtleoelhhndeheaaGreat

/- package vault: what is free, Undo, Drop -/
open Go Go.RowKit
open Go.Maps (Keyed has)
namespace Go.Proofs.YtleoelhhndeheaaGreat

set_option maxRecDepth 100000 in
theorem freeV_any {w : World} {M : Dom} {B C : Nat → Prop} {d l mb v : Nat} {s : DS} {L : LS} {now kept : Rcs} (h : VSys w M B C d l mb v s L now kept) (lv : L.Lv s) {H : Nat} (hH : L.H s = H) (ok : RcsOk now H) :
    Calls Tryz.prog 26 #[.pointer (some ⟨v, 0, none⟩)] w fun e w' => e = .returned (.int .i64 ((H : Int) - (now.used : Nat))) ∧ Below w.heap.size w w' := by
  have hl := lv.l
  have hn1 := lv.n1
  have hH4 : 2 ≤ H ∧ H ≤ 4095 := by unfold LS.H at hH; omega
  have hu := used_le ok (by omega)
  have TR := fun (W : World) (Bw : Below w.heap.size w W) => (tracksV_any (h.below Bw) lv).mono (R' := fun e w' => e = .returned (.int .i64 ((H : Nat) : Int)) ∧ Below W.heap.size W w') (fun e w' ⟨h1, h2⟩ => ⟨by rw [h1, hH], by rw [← h2]; exact Below.refl _ _⟩)
  obtain ⟨d1, t1, d2, t2, h2⟩ := h.out
  obtain ⟨-, c1, c2, -⟩ := h2.cells
  have US := fun (W : World) (Bw : Below w.heap.size w W) => used_any (h2.now.below Bw (Nat.le_refl _)) ok (by omega) (by omega)
  have SB : ∀ W, Below w.heap.size w W → W.cell? ⟨v, 1, none⟩ = some (.map (some d1)) ∧ W.cell? ⟨v, 2, none⟩ = some (.map (some t1)) := fun W k => ⟨Below.cellAt k (lt_of_cell c1) c1, Below.cellAt k (lt_of_cell c2) c2⟩
  obtain ⟨u, hu'⟩ : ∃ u, now.used = u := ⟨_, rfl⟩
  rw [hu'] at US hu ⊢
  clear h h2 lv ok hu' hH hl hn1
  go_enter Tryz.func26, Tryz.ntmps26
  go_wp2_with fail
  refine wp_region_held_drew (S := fun W => W.cell? ⟨v, 1, none⟩ = some (.map (some d1)) ∧ W.cell? ⟨v, 2, none⟩ = some (.map (some t1))) (by kernel_rfl) (SB _ ((Below.refl w.heap.size w).drew)) (fun hHeld => ?_)
  refine wpAnyH_take (i := 0) (v := ?v1) (by simp only [List.getElem?_toArray, List.getElem?_cons_zero]; rfl) (by kernel_rfl) (by kernel_rfl) (by kernel_rfl) (by exact fun _ _ _ h => h) (Or.inl ⟨by rfl, ?h1⟩) (by assumption) ?r1
  case h1 => (intro w hSw; (try dsimp only at hSw); go_simp; try with_reducible rfl)
  try simp only [Act.put, List.setIfInBounds_toArray, List.set_cons_zero, List.set_cons_succ]
  refine wpAnyH_take (i := 2) (v := ?v2) (by simp only [List.getElem?_toArray, List.getElem?_cons_zero, List.getElem?_cons_succ]; rfl) (by kernel_rfl) (by kernel_rfl) (by kernel_rfl) (by exact fun _ _ _ h => h) (Or.inl ⟨by rfl, ?h2⟩) (by assumption) ?r2
  case h2 => (intro w hSw; (try dsimp only at hSw); go_simp; try with_reducible rfl)
  try simp only [Act.put, List.setIfInBounds_toArray, List.set_cons_zero, List.set_cons_succ]
  refine wpAnyH_take (i := 3) (v := ?v3) (by simp only [List.getElem?_toArray, List.getElem?_cons_zero, List.getElem?_cons_succ]; rfl) (by kernel_rfl) (by kernel_rfl) (by kernel_rfl) (by exact fun _ _ _ h => h) (Or.inl ⟨by rfl, ?h3⟩) (by assumption) ?r3
  case h3 => (intro w hSw; (try dsimp only at hSw); go_simp; try with_reducible rfl)
  try simp only [Act.put, List.setIfInBounds_toArray, List.set_cons_zero, List.set_cons_succ]
  refine wpAnyH_take (i := 4) (v := ?v4) (by simp only [List.getElem?_toArray, List.getElem?_cons_zero, List.getElem?_cons_succ]; rfl) (by kernel_rfl) (by kernel_rfl) (by kernel_rfl) (by exact fun _ _ _ h => h) (Or.inl ⟨by rfl, ?h4⟩) (by assumption) ?r4
  case h4 => (intro w hSw; (try dsimp only at hSw); go_simp; try with_reducible rfl)
  try simp only [Act.put, List.setIfInBounds_toArray, List.set_cons_zero, List.set_cons_succ]
  refine wpAnyH_take (i := 5) (v := ?v5) (by simp only [List.getElem?_toArray, List.getElem?_cons_zero, List.getElem?_cons_succ]; rfl) (by kernel_rfl) (by kernel_rfl) (by kernel_rfl) (by exact fun _ _ _ h => h) (Or.inl ⟨by rfl, ?h5⟩) (by assumption) ?r5
  case h5 => (intro w hSw; (try dsimp only at hSw); go_simp; try with_reducible rfl)
  try simp only [Act.put, List.setIfInBounds_toArray, List.set_cons_zero, List.set_cons_succ]
  refine wpAnyH_ready (rs := [1]) (by kernel_rfl) (by simp) ?_
  refine (AllReadyH.cons (by simp only [List.getElem?_toArray, List.getElem?_cons_zero, List.getElem?_cons_succ]; rfl) (fun K hK => ?_) AllReadyH.nil)
  go_simp
  go_at_call 27
  refine (TR _ ((Below.refl w.heap.size w).drew)).mono ?_
  rintro e wq6 ⟨rfl, C6⟩
  have BB6 := ((Below.refl w.heap.size w).drew).trans (C6.mono (Below.size ((Below.refl w.heap.size w).drew)))
  refine hK.out _ _ (SB _ BB6) (fun hH7 => ?_)
  clear hK
  try simp only [Act.put, List.setIfInBounds_toArray, List.set_cons_zero, List.set_cons_succ]
  refine wpAnyH_ready (rs := [6]) (by kernel_rfl) (by simp) ?_
  refine (AllReadyH.cons (by simp only [List.getElem?_toArray, List.getElem?_cons_zero, List.getElem?_cons_succ]; rfl) (fun K hK => ?_) AllReadyH.nil)
  go_simp
  go_at_call 56
  refine (US _ (BB6)).mono ?_
  rintro e wq8 ⟨rfl, C8⟩
  have BB8 := (BB6).trans (C8.mono (Below.size (BB6)))
  refine hK.out _ _ (SB _ BB8) (fun hH9 => ?_)
  clear hK
  try simp only [Act.put, List.setIfInBounds_toArray, List.set_cons_zero, List.set_cons_succ]
  refine wpAnyH_take (i := 7) (v := ?v10) (by simp only [List.getElem?_toArray, List.getElem?_cons_zero, List.getElem?_cons_succ]; rfl) (by kernel_rfl) (by kernel_rfl) (by kernel_rfl) (by exact fun _ _ _ h => h) (Or.inl ⟨by rfl, ?h10⟩) (by assumption) ?r10
  case h10 => (intro w hSw; (try dsimp only at hSw); go_simp; try with_reducible rfl)
  try simp only [Act.put, List.setIfInBounds_toArray, List.set_cons_zero, List.set_cons_succ]
  refine wpAnyH_take (i := 8) (v := ?v11) (by simp only [List.getElem?_toArray, List.getElem?_cons_zero, List.getElem?_cons_succ]; rfl) (by kernel_rfl) (by kernel_rfl) (by kernel_rfl) (by exact fun _ _ _ h => h) (Or.inl ⟨by rfl, ?h11⟩) (by assumption) ?r11
  case h11 => (intro w hSw; (try dsimp only at hSw); go_simp; try with_reducible rfl)
  try simp only [Act.put, List.setIfInBounds_toArray, List.set_cons_zero, List.set_cons_succ]
  refine wpAnyH_done (by kernel_rfl) ?_ _
  go_wp2_with fail
  go_ret
  exact ⟨by first | rfl | exact ret_int (by have e : IntKind.i64.wrap ((H : Int) - (u : Int)) = (H : Int) - (u : Int) := IntWalk.i64_in _ (by omega); exact e), BB8⟩

set_option maxRecDepth 100000 in
/-- Undo -/
theorem undoV_any {w : World} {M : Dom} {B C : Nat → Prop} {d l mb v : Nat} {s : DS} {L : LS} {now kept : Rcs} (h : VSys w M B C d l mb v s L now kept) {H : Nat} (ok : RcsOk kept H) :
    Calls Tryz.prog 30 #[.pointer (some ⟨v, 0, none⟩)] w fun e w' => e = .returned (.tuple #[]) ∧ ∃ M' C', VSys w' M' B C' d l mb v s L kept kept ∧ VStep M C w M' C' w' := by
  have HS := hid h.sys
  obtain ⟨d1, t1, d2, t2, h2⟩ := h.out
  obtain ⟨c0, c1, c2, c3, c4⟩ := h2.cells
  have CO := copied_any h2.kept (fun x hx => by
    cases hn : kept x with
    | none => rw [hn] at hx; cases hx
    | some y => have := ok.id x y hn; omega)
  have HV := hid h2
  clear h h2 ok
  go_enter Tryz.func30, Tryz.ntmps30
  go_wp2_with fail
  refine CO.mono ?_
  rintro e w1 ⟨dn, tn, rfl, ld, lt, RP, B1⟩
  clear CO
  have obj1 : w1.heap[v]? = some (.cells (vltCells l d1 t1 d2 t2) 71 (0, 0)) := (Ext.of_below B1 (fun _ => False)).blk id HV.out.obj
  have e1 := blk_cell (o := 1) (v := .map (some d1)) obj1 rfl
  have e2 := blk_cell (o := 2) (v := .map (some t1)) obj1 rfl
  have fr := fun o => blk_free (o := o) obj1
  have HRP := hid RP
  have OB := hid obj1
  have HB1 := hid B1
  clear obj1 RP B1
  go_wp2_with fail
  go_end0
  have XS : Ext (fun q => q = v) w1 ((w1.setCell ⟨v, 1, none⟩ (.map (some dn))).setCell ⟨v, 2, none⟩ (.map (some tn))) := Ext.set.trans Ext.set (fun i _ h => h)
  have XE : Ext (fun q => q = v) w ((w1.setCell ⟨v, 1, none⟩ (.map (some dn))).setCell ⟨v, 2, none⟩ (.map (some tn))) := (Ext.of_below HB1.out _).trans XS (fun i _ h => h)
  have obj2 : ((w1.setCell ⟨v, 1, none⟩ (.map (some dn))).setCell ⟨v, 2, none⟩ (.map (some tn))).heap[v]? = some (.cells (vltCells l dn tn d2 t2) 71 (0, 0)) := blk_setCell (blk_setCell OB.out _) _
  obtain ⟨w2, hw2⟩ : ∃ w2, ((w1.setCell ⟨v, 1, none⟩ (.map (some dn))).setCell ⟨v, 2, none⟩ (.map (some tn))) = w2 := ⟨_, rfl⟩
  rw [hw2] at XS XE obj2 ⊢
  have hv := HV.out
  have rl := HRP.out.lt
  have rl2 := hv.kept.lt
  have sz := XS.size
  have hvC := hv.cx v hv.cv
  have hCn : ∀ q, C q → q < w.heap.size := fun q hq => (hv.cx q hq).2
  have hD : ∀ q, inD (M.addX fun q => q = dn ∨ q = tn) q → inD M q ∨ w.heap.size ≤ q := fun q hq => hq.elim (fun h => .inl (.inl h)) (fun h => h.elim (fun h => .inl (.inr h)) (fun h => .inr (by omega)))
  refine ⟨rfl, M.addX fun q => q = dn ∨ q = tn, fun q => C q ∨ q = dn ∨ q = tn, ⟨HS.out.otherG (F := fun q => q = v) XE (fun q hq => by subst hq; exact hvC.1.1) (fun q hq => by subst hq; exact ⟨hvC.1.2.1, hvC.1.2.2⟩) (fun q hq => by omega), dn, tn, d2, t2, ⟨obj2, ?_, ?_, ?_, .inl hv.cv, ⟨⟨.inr (.inl rfl), .inr (.inr rfl)⟩, .inl hv.cs.2.1, .inl hv.cs.2.2⟩, fun q hq => ?_⟩⟩, ⟨XE.mono (fun i _ h => by subst h; exact hv.cv), rfl, fun q hq => hq.imp id (fun h => by omega), fun q hq => hq.imp id (fun h => by omega), fun q hq => .inl hq⟩⟩
  · exact HRP.out.step XS (fun q hq => by subst hq; exact .inl (.inr hvC.1.1)) (by have := hvC.2; omega) (by have := hvC.2; omega) (fun q hq => (hD q hq).elim (fun h => .inl (.inl h)) (fun h => .inl (.inr h)))
  · exact hv.kept.step XE (fun q hq => by subst hq; exact .inr hvC.1.1) hv.ne.2.1 hv.ne.2.2 (fun q hq => hD q hq)
  · have := hCn d2 hv.cs.2.1
    have := hCn t2 hv.cs.2.2
    omega
  · have key : q < w.heap.size ∧ C q ∨ (q = dn ∨ q = tn) := hq.imp (fun h => ⟨hCn q h, h⟩) id
    rcases key with ⟨h1, h2⟩ | h
    · have := hv.cx q h2
      exact ⟨⟨.inl this.1.1, this.1.2⟩, by have := XE.size; omega⟩
    · refine ⟨⟨.inr h, fun hm => ?_, fun hb => ?_⟩, by omega⟩
      · have := HS.out.drum.ml q hm; omega
      · have := HS.out.led.bs q hb; omega

set_option maxRecDepth 100000 in
/-- Drop -/
theorem dropV_any {w : World} {M : Dom} {B C : Nat → Prop} {d l mb v : Nat} {s : DS} {L : LS} {now kept : Rcs} (h : VSys w M B C d l mb v s L now kept) (id : Int) (hid' : -9223372036854775808 ≤ id ∧ id ≤ 9223372036854775807) :
    Calls Tryz.prog 28 #[.pointer (some ⟨v, 0, none⟩), .int .i64 id] w fun e w' => e = .returned (.bool (now id).isSome) ∧ VSys w' M B C d l mb v s L (now.drop id) kept ∧ VStep M C w M C w' := by
  have HS := hid h.sys
  obtain ⟨d1, t1, d2, t2, h2⟩ := h.out
  obtain ⟨c0, c1, c2, c3, c4⟩ := h2.cells
  obtain ⟨vb, -, lk, -⟩ := h2.now.lookD id hid'
  have lk := lk w (Below.refl _ _)
  obtain ⟨V, U, hv, hu, hx⟩ := h2.now.out
  have HVM := hid hv
  have HUM := hid hu
  have HX := hid hx
  have HV := hid h2
  have NE := hid h2.ne
  have N1 := hid h2.now.ne
  obtain ⟨bb, hbb⟩ : ∃ bb, (now id).isSome = bb := ⟨_, rfl⟩
  rw [hbb] at lk ⊢
  clear h h2 hv hu hx hbb
  go_enter Tryz.func28, Tryz.ntmps28
  go_wp2_with (first | (at_delete; refine wpList_delete_im rfl _ rfl _ _ 65 3 rfl rfl 27 Tryz.underlying65 d1 41 V rfl HVM.out id rfl hid' ?_) | fail)
  intro w1 M1 X1
  have c2' : w1.cell? ⟨v, 2, none⟩ = some (.map (some t1)) := X1.cell (fun e => NE.out.1.1 e.symm) c2
  have U1 := hid (HUM.out.ext X1 (fun e => N1.out e.symm))
  have HM1 := hid M1
  have HX1 := hid X1
  clear M1 X1
  go_wp2_with (first | (at_delete; refine wpList_delete_im rfl _ rfl _ _ 66 3 rfl rfl 33 Tryz.underlying66 t1 41 U rfl U1.out id rfl hid' ?_) | fail)
  intro w2 M2 X2
  have HM2 := hid M2
  have V2 := hid (HM1.out.ext X2 N1.out)
  have XX := hid (show Ext (fun q => q = d1 ∨ q = t1) w w2 from (HX1.out.mono (fun i _ h => .inl h)).trans X2 (fun i _ h => .inr h))
  clear M2 X2
  go_wp2_with fail
  go_ret
  have hv := HV.out
  have cd := hv.cx d1 hv.cs.1.1
  have ct := hv.cx t1 hv.cs.1.2
  have hF : ∀ q, (q = d1 ∨ q = t1) → inD M q := fun q hq => hq.elim (fun e => by subst e; exact .inr cd.1.1) (fun e => by subst e; exact .inr ct.1.1)
  refine ⟨rfl, ⟨?_, d1, t1, d2, t2, ⟨XX.out.blk (fun h => h.elim (fun e => NE.out.1.1 e.symm) (fun e => NE.out.1.2 e.symm)) hv.obj, ⟨N1.out, _, _, V2.out, HM2.out, fun y => ?_⟩, hv.kept.step XX.out hF (fun h => h.elim (fun e => hv.nd.1.1 e.symm) (fun e => hv.nd.2.1 e.symm)) (fun h => h.elim (fun e => hv.nd.1.2 e.symm) (fun e => hv.nd.2.2 e.symm)) (fun q hq => .inl hq), hv.nd, hv.cv, hv.cs, fun q hq => ⟨(hv.cx q hq).1, Nat.lt_of_lt_of_le (hv.cx q hq).2 XX.out.size⟩⟩⟩, ⟨XX.out.mono (fun i _ h => h.elim (fun e => by subst e; exact hv.cs.1.1) (fun e => by subst e; exact hv.cs.1.2)), rfl, fun q h => .inl h, fun q h => .inl h, fun q h => h⟩⟩
  · have := HS.out.otherG (G := fun _ => False) XX.out (fun q hq => hq.elim (fun e => by subst e; exact cd.1.1) (fun e => by subst e; exact ct.1.1)) (fun q hq => hq.elim (fun e => by subst e; exact cd.1.2) (fun e => by subst e; exact ct.1.2)) (fun q hq => hq.elim)
    have eM : (M.addX fun _ => False) = M := by
      show (⟨M.M, fun q => M.X q ∨ False⟩ : Dom) = M
      have : (fun q => M.X q ∨ False) = M.X := by funext q; simp
      rw [this]
    rwa [eM] at this
  · by_cases e : y = id
    · subst e
      exact .inl ⟨by unfold Rcs.drop; rw [if_pos rfl], by simp, by simp⟩
    · rcases HX.out y with ⟨h1, h2, h3⟩ | ⟨b, l', v', u', h1, h2, h3, h4, h5⟩
      · exact .inl ⟨by unfold Rcs.drop; rw [if_neg e]; exact h1, by simp only [if_neg e]; exact h2, by simp only [if_neg e]; exact h3⟩
      · exact .inr ⟨b, l', v', u', by unfold Rcs.drop; rw [if_neg e]; exact h1, by simp only [if_neg e]; exact h2, by simp only [if_neg e]; exact h3, h4.step XX.out hF (fun q hq => .inl hq), h5.step XX.out hF (fun q hq => .inl hq)⟩

end Go.Proofs.YtleoelhhndeheaaGreat

/- package vault: Put -/
open Go Go.RowKit
open Go.Maps (Keyed has)
namespace Go.Proofs.YtleoelhhndeheaaGreat

/-- what a Put answers -/
def PutAns (w : World) (M : Dom) (B C : Nat → Prop) (d l mb v : Nat) (s : DS) (L : LS) (now kept : Rcs) (H : Nat) (id : Int) (bs : List Int) (e : Ending) (w' : World) : Prop :=
  e = .returned (.int .i64 (putC now H L.lost id bs.length)) ∧ VSys w' M B C d l mb v s L (now.putted H L.lost id bs) kept ∧ VStep M C w M C w'
theorem VStep.below {M : Dom} {C : Nat → Prop} {w w' : World} (k : Below w.heap.size w w') : VStep M C w M C w' := ⟨Ext.of_below k _, rfl, fun _ h => .inl h, fun _ h => .inl h, fun _ h => h⟩
theorem PutAns.no {w w' : World} {M : Dom} {B C : Nat → Prop} {d l mb v : Nat} {s : DS} {L : LS} {now kept : Rcs} {H : Nat} {id : Int} {bs : List Int} (h : VSys w M B C d l mb v s L now kept) (k : Below w.heap.size w w') {c : Int} (hc : putC now H L.lost id bs.length = c) (hn : now.putted H L.lost id bs = now) : PutAns w M B C d l mb v s L now kept H id bs (.returned (.int .i64 c)) w' :=
  ⟨by rw [hc], by rw [hn]; exact h.below k, VStep.below k⟩
theorem VSys.free {w : World} {M : Dom} {B C : Nat → Prop} {d l mb v : Nat} {s : DS} {L : LS} {now kept : Rcs} (h : VSys w M B C d l mb v s L now kept) {q : Nat} (hq : w.heap.size ≤ q) : ¬ inD M q := by
  obtain ⟨p, -, D⟩ := h.sys.drum
  rintro (h1 | h1)
  · have := D.ml q h1; omega
  · have := D.xl q h1; omega
theorem putted_no {R : Rcs} {H : Nat} {lost : Bool} {id : Int} {b : List Int} (h : putC R H lost id b.length ≠ 0) : R.putted H lost id b = R := by unfold Rcs.putted; rw [if_neg h]
/-- the same bytes again -/
theorem putted_same {R : Rcs} {H : Nat} (ok : RcsOk R H) {lost : Bool} {id : Int} {b : List Int} {l : List Int} (h : R id = some (b, l)) : R.putted H lost id b = R := by
  unfold Rcs.putted
  split
  · have hl : l.length = takes b.length := ok.len id _ h
    have e : R.nextT id b.length = l := by
      unfold Rcs.nextT
      rw [trks_of h]
      show (if l.length < takes b.length then _ else l.take (takes b.length)) = l
      rw [if_neg (by omega), ← hl, List.take_of_length_le (Nat.le_refl _)]
    funext k
    unfold Rcs.putB Rcs.put
    rw [e]
    by_cases ek : k = id
    · rw [if_pos ek, ek, h]
    · rw [if_neg ek]
  · rfl

/-- a record was put into the maps -/
theorem VSys.putIn {w wz wf : World} {M : Dom} {B C : Nat → Prop} {d l mb v d1 t1 d2 t2 : Nat} {s : DS} {L : LS} {now kept : Rcs} (h : VSys w M B C d l mb v s L now kept) (hv : VltP w M B C v l d1 t1 d2 t2 now kept) (kz : Below w.heap.size w wz) (X : Ext (fun q => q = d1 ∨ q = t1) wz wf)
    {H : Nat} (ok : RcsOk now H) {V U : Int → Option Value} (hx : ∀ x, (now x = none ∧ V x = none ∧ U x = none) ∨ ∃ b l v u, now x = some (b, l) ∧ V x = some v ∧ U x = some u ∧ Hld w (inD M) v (B8 b) ∧ Hld w (inD M) u (I8 l))
    {id : Int} (hid' : 1 ≤ id ∧ id ≤ 40) {vv uu : Value} {bs nl : List Int} (hb : Hld wf (inD M) vv (B8 bs)) (hu : Hld wf (inD M) uu (I8 nl)) {n1 n2 : Nat} (hV : IMap wf d1 n1 (fun k => if k = id then some vv else V k)) (hU : IMap wf t1 n2 (fun k => if k = id then some uu else U k)) :
    VSys wf M B C d l mb v s L (now.put id (bs, nl)) kept ∧ VStep M C w M C wf := by
  have cd := hv.cx d1 hv.cs.1.1
  have ct := hv.cx t1 hv.cs.1.2
  have NE := hv.ne
  have XX : Ext (fun q => q = d1 ∨ q = t1) w wf := (Ext.of_below kz _).trans X (fun i _ h => h)
  have hF : ∀ q, (q = d1 ∨ q = t1) → inD M q := fun q hq => hq.elim (fun e => by subst e; exact .inr cd.1.1) (fun e => by subst e; exact .inr ct.1.1)
  have hk : ∀ k, k = id ∨ (now k).isSome → 0 ≤ k ∧ k < (41 : Nat) := fun k hk => by
    rcases hk with rfl | hk
    · omega
    · cases hn : now k with
      | none => rw [hn] at hk; cases hk
      | some y => have := ok.id k y hn; omega
  have s1 := hV.small (H := 41) (fun k hk' => hk k (by
    by_cases e : k = id
    · exact .inl e
    · simp only [if_neg e] at hk'
      rcases hx k with ⟨-, e2, -⟩ | ⟨b, l, _, _, e1, -⟩
      · rw [e2] at hk'; cases hk'
      · exact .inr (by rw [e1]; rfl)))
  have s2 := hU.small (H := 41) (fun k hk' => hk k (by
    by_cases e : k = id
    · exact .inl e
    · simp only [if_neg e] at hk'
      rcases hx k with ⟨-, -, e2⟩ | ⟨b, l, _, _, e1, -⟩
      · rw [e2] at hk'; cases hk'
      · exact .inr (by rw [e1]; rfl)))
  refine ⟨⟨?_, d1, t1, d2, t2, ⟨XX.blk (fun h => h.elim (fun e => NE.1.1 e.symm) (fun e => NE.1.2 e.symm)) hv.obj, ⟨hv.now.ne, _, _, s1, s2, fun y => ?_⟩, hv.kept.step XX hF (fun h => h.elim (fun e => hv.nd.1.1 e.symm) (fun e => hv.nd.2.1 e.symm)) (fun h => h.elim (fun e => hv.nd.1.2 e.symm) (fun e => hv.nd.2.2 e.symm)) (fun q hq => .inl hq), hv.nd, hv.cv, hv.cs, fun q hq => ⟨(hv.cx q hq).1, Nat.lt_of_lt_of_le (hv.cx q hq).2 XX.size⟩⟩⟩, ⟨XX.mono (fun i _ h => h.elim (fun e => by subst e; exact hv.cs.1.1) (fun e => by subst e; exact hv.cs.1.2)), rfl, fun q h => .inl h, fun q h => .inl h, fun q h => h⟩⟩
  · have := h.sys.otherG (G := fun _ => False) XX (fun q hq => hq.elim (fun e => by subst e; exact cd.1.1) (fun e => by subst e; exact ct.1.1)) (fun q hq => hq.elim (fun e => by subst e; exact cd.1.2) (fun e => by subst e; exact ct.1.2)) (fun q hq => hq.elim)
    have eM : (M.addX fun _ => False) = M := by
      show (⟨M.M, fun q => M.X q ∨ False⟩ : Dom) = M
      have : (fun q => M.X q ∨ False) = M.X := by funext q; simp
      rw [this]
    rwa [eM] at this
  · by_cases e : y = id
    · subst e
      exact .inr ⟨bs, nl, vv, uu, by unfold Rcs.put; rw [if_pos rfl], by simp, by simp, hb, hu⟩
    · rcases hx y with ⟨h1, h2, h3⟩ | ⟨b, l', v', u', h1, h2, h3, h4, h5⟩
      · exact .inl ⟨by unfold Rcs.put; rw [if_neg e]; exact h1, by simp only [if_neg e]; exact h2, by simp only [if_neg e]; exact h3⟩
      · exact .inr ⟨b, l', v', u', by unfold Rcs.put; rw [if_neg e]; exact h1, by simp only [if_neg e]; exact h2, by simp only [if_neg e]; exact h3, h4.step XX hF (fun q hq => .inl hq), h5.step XX hF (fun q hq => .inl hq)⟩

set_option maxRecDepth 100000 in
set_option maxHeartbeats 16000000 in
theorem putV_any {w : World} {M : Dom} {B C : Nat → Prop} {d l mb v : Nat} {s : DS} {L : LS} {now kept : Rcs} (h : VSys w M B C d l mb v s L now kept) (lv : L.Lv s) {H : Nat} (hH : L.H s = H) (ok : RcsOk now H) (id : Int) (hid' : -9223372036854775808 ≤ id ∧ id ≤ 9223372036854775807) (a : Option Addr) (len cap : Nat) (bs : List Int) (hr : Row w a (B8 bs)) (hbl : bs.length = len) (hlen : len ≤ 1000000) (hn : a = none → len = 0) (hby : IsBytes bs) :
    Calls Tryz.prog 15 #[.pointer (some ⟨v, 0, none⟩), .int .i64 id, .slice a len cap] w (PutAns w M B C d l mb v s L now kept H id bs) := by
  obtain ⟨iI0, hiI, hI0, hI1, hI2⟩ := info_parts iI
  have HVS := hid h
  have hl := lv.l
  have hn1 := lv.n1
  have hH4 : 2 ≤ H ∧ H ≤ 4095 := by unfold LS.H at hH; omega
  have hu := used_le ok (by omega)
  have OK := hid ok
  have LO := lostV_any h
  have FR := fun (W : World) (Bw : Below w.heap.size w W) => freeV_any (h.below Bw) lv hH ok
  obtain ⟨d1, t1, d2, t2, h2⟩ := h.out
  have HV := hid h2
  obtain ⟨c0, c1, c2, -, -⟩ := h2.cells
  obtain ⟨vb, lk1, lk2, hvb⟩ := h2.now.lookD id hid'
  obtain ⟨vu, lu, hvu⟩ := h2.now.lookT id hid'
  obtain ⟨V, U, hvm, hum, hxm⟩ := h2.now.out
  have HVM := hid hvm
  have HUM := hid hum
  have HXM := hid hxm
  have N1 := hid h2.now.ne
  have NE := hid h2.ne
  clear hvm hum hxm
  obtain ⟨ba, bc, eb, brow, -, -, bn, -⟩ := hvb.out
  obtain ⟨ta, tc, et, trow, tle, tm, tn, -⟩ := hvu.out
  rw [B8_length] at eb bn
  rw [I8_length] at et tn tle
  obtain ⟨tl, htl⟩ : ∃ tl, (now.trks id).length = tl := ⟨_, rfl⟩
  obtain ⟨bl, hbl2⟩ : ∃ bl, (now.bytes id).length = bl := ⟨_, rfl⟩
  obtain ⟨ll, hll⟩ : ∃ ll, now.trks id = ll := ⟨_, rfl⟩
  obtain ⟨bb, hbb⟩ : ∃ bb, now.bytes id = bb := ⟨_, rfl⟩
  rw [htl] at et tn tle
  rw [hbl2] at eb bn
  rw [hll] at trow htl
  rw [hbb] at brow hbl2
  subst eb et
  have htk : tl ≤ 1000 := by
    cases hR : now id with
    | none => rw [← hll, trks_none hR] at htl; simp at htl; omega
    | some x => rw [← hll, trks_of hR, ok.len id x hR] at htl; have := (ok.b id x hR).1; unfold takes at htl; omega
  have HTL := hid htl
  have HLL := hid hll
  have HBB := hid hbb
  have HBL := hid hbl
  have HBL2 := hid hbl2
  have HBY := hid hby
  have HR := hid hr
  have HROW := hid trow
  have HBROW := hid brow
  have HTN := hid tn
  have HBN := hid bn
  have HN := hid hn
  have HBYS := hid (show IsBytes bb ∧ bb.length ≤ 60000 by
    rw [← hbb]
    cases hR : now id with
    | none => unfold Rcs.bytes; rw [hR]; exact ⟨nofun, Nat.zero_le _⟩
    | some x => rw [bytes_of hR]; exact ⟨(ok.b id x hR).2, (ok.b id x hR).1⟩)
  have HLU := hid lu
  have HLK := hid lk2
  obtain ⟨is, his⟩ : ∃ is, (now id).isSome = is := ⟨_, rfl⟩
  rw [his] at lk2
  have HIS := hid his
  have TK := fun W => takes_any len W (by omega)
  obtain ⟨tk, htk2⟩ : ∃ tk, takes len = tk := ⟨_, rfl⟩
  rw [htk2] at TK
  have TKB := fun W => (TK W).mono (R' := fun e w' => e = .returned (.int .i64 ((tk : Nat) : Int)) ∧ Below W.heap.size W w') (fun e w' ⟨h1, h2⟩ => ⟨h1, by rw [← h2]; exact Below.refl _ _⟩)
  have tkb : 1 ≤ tk ∧ tk ≤ 20000 := by rw [← htk2]; unfold takes; omega
  have HTK := hid htk2
  have HC := hid (show putC now H L.lost id bs.length = if id < 1 ∨ 40 < id ∨ 60000 < len then 1 else if L.lost = true then 4 else if H + tl < tk + now.used then 3 else 0 by
    unfold putC; rw [hbl, htk2, hll, htl])
  obtain ⟨us, hus⟩ : ∃ us, now.used = us := ⟨_, rfl⟩
  rw [hus] at FR hu HC
  have HUS := hid hus
  obtain ⟨lo, hlo⟩ : ∃ lo, L.lost = lo := ⟨_, rfl⟩
  rw [hlo] at LO HC
  have HLO := hid hlo
  have SB : ∀ W, Below w.heap.size w W → W.cell? ⟨v, 2, none⟩ = some (.map (some t1)) ∧ (Instr.lookup 66 (.map (some t1)) (.int .i64 id) false).run Tryz.prog W = .ok (.slice ta tl tc) W := fun W k => ⟨Below.cellAt k (lt_of_cell c2) c2, lu W k⟩
  have lvw := lt_of_cell c0
  have hwr : IntKind.i64.wrap ((tk : Int) - (tl : Int)) = (tk : Int) - (tl : Int) := IntWalk.i64_in _ (by omega)
  clear h h2 lv ok hvb hvu lu lk1 hbl hr hby htl hll hbb hbl2 trow brow tn bn hn htk2 hus hlo his hl hn1 hH
  go_enter Tryz.func15, Tryz.ntmps15
  go_wp2_with fail
  refine wp_region_held_drew (S := fun W => W.cell? ⟨v, 2, none⟩ = some (.map (some t1)) ∧ (Instr.lookup 66 (.map (some t1)) (.int .i64 id) false).run Tryz.prog W = .ok (.slice ta tl tc) W) (by kernel_rfl) (SB _ ((Below.refl w.heap.size w).drew)) (fun hHeld => ?_)
  refine wpAnyH_take (i := 0) (v := ?v1) (by simp only [List.getElem?_toArray, List.getElem?_cons_zero]; rfl) (by kernel_rfl) (by kernel_rfl) (by kernel_rfl) (by exact fun _ _ _ h => h) (Or.inl ⟨by rfl, ?h1⟩) (by assumption) ?r1
  case h1 => (intro w hSw; (try dsimp only at hSw); go_simp; try with_reducible rfl)
  try simp only [Act.put, List.setIfInBounds_toArray, List.set_cons_zero, List.set_cons_succ]
  refine wpAnyH_take (i := 1) (v := ?v2) (by simp only [List.getElem?_toArray, List.getElem?_cons_zero, List.getElem?_cons_succ]; rfl) (by kernel_rfl) (by kernel_rfl) (by kernel_rfl) (by exact fun _ _ _ h => h) (Or.inl ⟨by rfl, ?h2⟩) (by assumption) ?r2
  case h2 => (intro w hSw; (try dsimp only at hSw); go_simp; try with_reducible rfl)
  try simp only [Act.put, List.setIfInBounds_toArray, List.set_cons_zero, List.set_cons_succ]
  refine wpAnyH_take (i := 3) (v := ?v3) (by simp only [List.getElem?_toArray, List.getElem?_cons_zero, List.getElem?_cons_succ]; rfl) (by kernel_rfl) (by kernel_rfl) (by kernel_rfl) (by exact fun _ _ _ h => h) (Or.inl ⟨by rfl, ?h3⟩) (by assumption) ?r3
  case h3 => (intro w hSw; (try dsimp only at hSw); go_simp; try with_reducible rfl)
  try simp only [Act.put, List.setIfInBounds_toArray, List.set_cons_zero, List.set_cons_succ]
  refine wpAnyH_take (i := 4) (v := ?v4) (by simp only [List.getElem?_toArray, List.getElem?_cons_zero, List.getElem?_cons_succ]; rfl) (by kernel_rfl) (by kernel_rfl) (by kernel_rfl) (by exact fun _ _ _ h => h) (Or.inl ⟨by rfl, ?h4⟩) (by assumption) ?r4
  case h4 => (intro w hSw; (try dsimp only at hSw); go_simp; try with_reducible rfl)
  try simp only [Act.put, List.setIfInBounds_toArray, List.set_cons_zero, List.set_cons_succ]
  refine wpAnyH_take (i := 5) (v := ?v5) (by simp only [List.getElem?_toArray, List.getElem?_cons_zero, List.getElem?_cons_succ]; rfl) (by kernel_rfl) (by kernel_rfl) (by kernel_rfl) (by exact fun _ _ _ h => h) (Or.inl ⟨by rfl, ?h5⟩) (by assumption) ?r5
  case h5 => (intro w hSw; (try dsimp only at hSw); go_simp; try with_reducible rfl)
  try simp only [Act.put, List.setIfInBounds_toArray, List.set_cons_zero, List.set_cons_succ]
  refine wpAnyH_take (i := 6) (v := ?v6) (by simp only [List.getElem?_toArray, List.getElem?_cons_zero, List.getElem?_cons_succ]; rfl) (by kernel_rfl) (by kernel_rfl) (by kernel_rfl) (by exact fun _ _ _ h => h) (Or.inl ⟨by rfl, ?h6⟩) (by assumption) ?r6
  case h6 => (intro w hSw; (try dsimp only at hSw); go_simp; try with_reducible rfl)
  try simp only [Act.put, List.setIfInBounds_toArray, List.set_cons_zero, List.set_cons_succ]
  refine wpAnyH_take (i := 7) (v := ?v7) (by simp only [List.getElem?_toArray, List.getElem?_cons_zero, List.getElem?_cons_succ]; rfl) (by kernel_rfl) (by kernel_rfl) (by kernel_rfl) (by exact fun _ _ _ h => h) (Or.inl ⟨by rfl, ?h7⟩) (by assumption) ?r7
  case h7 => (intro w hSw; (try dsimp only at hSw); go_simp; try with_reducible rfl)
  try simp only [Act.put, List.setIfInBounds_toArray, List.set_cons_zero, List.set_cons_succ]
  refine wpAnyH_take (i := 8) (v := ?v8) (by simp only [List.getElem?_toArray, List.getElem?_cons_zero, List.getElem?_cons_succ]; rfl) (by kernel_rfl) (by kernel_rfl) (by kernel_rfl) (by exact fun _ _ _ h => h) (Or.inl ⟨by rfl, ?h8⟩) (by assumption) ?r8
  case h8 => (intro w hSw; (try dsimp only at hSw); go_simp; try with_reducible rfl)
  try simp only [Act.put, List.setIfInBounds_toArray, List.set_cons_zero, List.set_cons_succ]
  refine wpAnyH_take (i := 9) (v := ?v9) (by simp only [List.getElem?_toArray, List.getElem?_cons_zero, List.getElem?_cons_succ]; rfl) (by kernel_rfl) (by kernel_rfl) (by kernel_rfl) (by exact fun _ _ _ h => h) (Or.inl ⟨by rfl, ?h9⟩) (by assumption) ?r9
  case h9 => (intro w hSw; (try dsimp only at hSw); go_simp; try with_reducible rfl)
  try simp only [Act.put, List.setIfInBounds_toArray, List.set_cons_zero, List.set_cons_succ]
  refine wpAnyH_take (i := 10) (v := ?v10) (by simp only [List.getElem?_toArray, List.getElem?_cons_zero, List.getElem?_cons_succ]; rfl) (by kernel_rfl) (by kernel_rfl) (by kernel_rfl) (by exact fun _ _ _ h => h) (Or.inl ⟨by rfl, ?h10⟩) (by assumption) ?r10
  case h10 => (intro w hSw; (try dsimp only at hSw); go_simp; try with_reducible rfl)
  try simp only [Act.put, List.setIfInBounds_toArray, List.set_cons_zero, List.set_cons_succ]
  refine wpAnyH_ready (rs := [2]) (by kernel_rfl) (by simp) ?_
  refine (AllReadyH.cons (by simp only [List.getElem?_toArray, List.getElem?_cons_zero, List.getElem?_cons_succ]; rfl) (fun K hK => ?_) AllReadyH.nil)
  go_simp
  go_at_call 13
  refine (TKB _).mono ?_
  rintro e wq11 ⟨rfl, C11⟩
  have BB11 := ((Below.refl w.heap.size w).drew).trans (C11.mono (Below.size ((Below.refl w.heap.size w).drew)))
  refine hK.out _ _ (SB _ BB11) (fun hH12 => ?_)
  clear hK
  try simp only [Act.put, List.setIfInBounds_toArray, List.set_cons_zero, List.set_cons_succ]
  refine wpAnyH_take (i := 11) (v := ?v13) (by simp only [List.getElem?_toArray, List.getElem?_cons_zero, List.getElem?_cons_succ]; rfl) (by kernel_rfl) (by kernel_rfl) (by kernel_rfl) (by exact fun _ _ _ h => h) (Or.inl ⟨by rfl, ?h13⟩) (by assumption) ?r13
  case h13 => (intro w hSw; (try dsimp only at hSw); go_simp; try with_reducible rfl)
  try simp only [Act.put, List.setIfInBounds_toArray, List.set_cons_zero, List.set_cons_succ]
  refine wpAnyH_take (i := 12) (v := ?v14) (by simp only [List.getElem?_toArray, List.getElem?_cons_zero, List.getElem?_cons_succ]; rfl) (by kernel_rfl) (by kernel_rfl) (by kernel_rfl) (by exact fun _ _ _ h => h) (Or.inl ⟨by rfl, ?h14⟩) (by assumption) ?r14
  case h14 => (intro w hSw; (try dsimp only at hSw); go_simp; try with_reducible rfl)
  try simp only [Act.put, List.setIfInBounds_toArray, List.set_cons_zero, List.set_cons_succ]
  refine wpAnyH_done (by kernel_rfl) ?_ _
  have BW := hid (BB11)
  obtain ⟨w1, hw1⟩ : ∃ w1, wq11 = w1 := ⟨_, rfl⟩
  rw [hw1] at BW ⊢
  clear hw1
  have k0 := Below.cellAt BW.out lvw c0
  have k1 := Below.cellAt BW.out lvw c1
  have k2 := Below.cellAt BW.out lvw c2
  have lkw := lk2 w1 BW.out
  clear SB hwr
  by_cases hb1 : id < 1
  · have i1 : decide (id < 1) = true := decide_eq_true hb1
    have hc := hid (show putC now H L.lost id bs.length = 1 by rw [HLO.out, HC.out, if_pos (.inl hb1)])
    go_wp2_with fail
    go_ret
    exact PutAns.no HVS.out BW.out hc.out (putted_no (by rw [hc.out]; omega))
  have i1 : decide (id < 1) = false := decide_eq_false hb1
  by_cases hb2 : 40 < id
  · have i2 : decide (40 < id) = true := decide_eq_true hb2
    have hc := hid (show putC now H L.lost id bs.length = 1 by rw [HLO.out, HC.out, if_pos (.inr (.inl hb2))])
    go_wp2_with fail
    go_ret
    exact PutAns.no HVS.out BW.out hc.out (putted_no (by rw [hc.out]; omega))
  have i2 : decide (40 < id) = false := decide_eq_false hb2
  by_cases hb3 : 60000 < len
  · have i3 : decide ((60000 : Int) < (len : Int)) = true := decide_eq_true (by omega)
    have hc := hid (show putC now H L.lost id bs.length = 1 by rw [HLO.out, HC.out, if_pos (.inr (.inr hb3))])
    go_wp2_with fail
    go_ret
    exact PutAns.no HVS.out BW.out hc.out (putted_no (by rw [hc.out]; omega))
  have i3 : decide ((60000 : Int) < (len : Int)) = false := decide_eq_false (by omega)
  have HC2 := hid (show putC now H L.lost id bs.length = if lo = true then 4 else if H + tl < tk + us then 3 else 0 by rw [HLO.out, HC.out, if_neg (by omega)])
  have LO1 := lostV_any (HVS.out.below BW.out)
  rw [HLO.out] at LO1
  clear LO HC
  cases lo with
  | true =>
    go_wp2_with fail
    refine LO1.mono ?_
    rintro e w2 ⟨rfl, rfl⟩
    clear LO1
    go_wp2_with fail
    go_ret
    exact PutAns.no HVS.out BW.out (show putC now H L.lost id bs.length = 4 by rw [HC2.out]; simp) (putted_no (by rw [HC2.out]; simp))
  | false =>
    have FR1 := FR w1 BW.out
    clear FR
    go_wp2_with fail
    refine LO1.mono ?_
    rintro e w2 ⟨rfl, rfl⟩
    clear LO1
    go_wp2_with fail
    refine FR1.mono ?_
    rintro e w2 ⟨rfl, B2⟩
    clear FR1
    have BW2 := hid (BW.out.trans (B2.mono BW.out.size))
    clear B2
    by_cases hfull : H + tl < tk + us
    · have i4 : decide ((H : Int) - (us : Int) < (tk : Int) - (tl : Int)) = true := decide_eq_true (by omega)
      have hc := hid (show putC now H L.lost id bs.length = 3 by rw [HC2.out, if_neg (by simp), if_pos hfull])
      go_wp2_with fail
      go_ret
      exact PutAns.no HVS.out BW2.out hc.out (putted_no (by rw [hc.out]; omega))
    have i4 : decide ((H : Int) - (us : Int) < (tk : Int) - (tl : Int)) = false := decide_eq_false (by omega)
    have hc := hid (show putC now H L.lost id bs.length = 0 by rw [HC2.out, if_neg (by simp), if_neg hfull])
    clear HC2
    cases is with
    | true =>
      have EQ := equalB_any ba a bl len bc cap bb bs w2 (HBROW.out.below BW2.out (Nat.le_refl _)) (HR.out.below BW2.out (Nat.le_refl _)) HBL2.out HBL.out (by have := HBL2.out; have := HBYS.out.2; omega) HBYS.out.1 HBY.out
      go_wp2_with fail
      refine EQ.mono ?_
      rintro e w3 ⟨rfl, nq, rfl⟩
      clear EQ
      have BW3 := hid (Below.drewN BW2.out nq)
      obtain ⟨wm, hwm⟩ : ∃ w', w2.drewN nq = w' := ⟨_, rfl⟩
      rw [hwm] at BW3 ⊢
      clear hwm
      by_cases hsame : bb = bs
      · rw [decide_eq_true hsame]
        have HPS := hid (show now.putted H L.lost id bs = now by
          obtain ⟨x, hx⟩ := Option.isSome_iff_exists.1 HIS.out
          have e : x.1 = bs := by rw [← hsame, ← HBB.out, bytes_of hx]
          exact putted_same OK.out (l := x.2) (by rw [hx, ← e]))
        go_wp2_with fail
        go_ret
        exact PutAns.no HVS.out BW3.out hc.out HPS.out
      · rw [decide_eq_false hsame]
        have BM := BW3
        have m1 := Below.cellAt BM.out lvw c1
        have m2 := Below.cellAt BM.out lvw c2
        have luW := HLU.out wm BM.out
        have CL := cloneI_any ta tl tc ll wm (HROW.out.below BM.out (Nat.le_refl _)) HTL.out HTN.out (by omega)
        go_wp2_with fail
        refine CL.mono ?_
        rintro e w4 ⟨v4, rfl, o4, B4⟩
        clear CL luW
        obtain ⟨a4, c4, rfl⟩ := owns_slice o4
        have O4 := hid o4
        have SM4 := hid (show wm.heap.size ≤ w4.heap.size from B4.size)
        have BM4 := hid (BM.out.trans (B4.mono BM.out.size))
        have n1 := Below.cellAt BM4.out lvw c1
        have n2 := Below.cellAt BM4.out lvw c2
        clear o4 B4 m1 m2
        have HNX := hid (show now.nextT id len = if tl < tk then ll ++ now.freeL (tk - tl) else ll.take tk by unfold Rcs.nextT; rw [HTK.out, HLL.out, HTL.out])
        by_cases hmore : tl < tk
        · obtain ⟨mo, hmo⟩ : ∃ mo, tk = tl + mo := ⟨tk - tl, by omega⟩
          have HMO := hid hmo
          have i5' : decide ((0 : Int) < (mo : Int)) = true := decide_eq_true (by omega)
          have e5 : (tk : Int) - (tl : Int) = (mo : Int) := by omega
          have FREE := free_any (HV.out.now.below BM4.out (Nat.le_refl _)) OK.out (by omega) (by omega) mo (by have := HUS.out; omega)
          have HNX2 := hid (show now.nextT id len = ll ++ now.freeL mo by rw [HNX.out, if_pos hmore, show tk - tl = mo by omega])
          have mob : mo ≤ 20000 := by omega
          clear hmo
          go_wp2_with fail
          refine FREE.mono ?_
          rintro e w5 ⟨v5, rfl, o5, B5⟩
          clear FREE
          obtain ⟨a5, c5, rfl, hl5, -, -, r5, -, n5⟩ := row_of_owns o5
          have n5' : a5 = none → mo = 0 ∧ c5 = 0 := fun e => by have := n5 e; omega
          have R5 := hid r5
          have HL5 := hid hl5
          have O45 := hid (Below.owns B5 (Nat.le_refl _) O4.out)
          have BM5 := hid (BM4.out.trans (B5.mono BM4.out.size))
          have SM5 := hid (show wm.heap.size ≤ w5.heap.size from Nat.le_trans SM4.out B5.size)
          clear o5 B5 r5 hl5 n5
          go_wp2_with (first | (at_builtin; refine wpList_append_row (P := Tryz.prog) rfl _ _ 33 rfl wm.heap.size 3 iI0 (.int .i64 0) Tryz.underlying33 hiI hI0 hI1 (by omega) rfl _ tl _ rfl O45.out a5 mo c5 (I8 (now.freeL mo)) rfl R5.out HL5.out n5' (I8_one _) (by omega) SM5.out ?_) | fail)
          intro v6 wz o6 B6 _
          obtain ⟨az, cz, rfl⟩ := owns_slice o6
          have BZ := hid (BM5.out.trans (B6.mono BM.out.size))
          have HNT := hid (show Hld wz (inD M) (.slice az (tl + mo) cz) (I8 (now.nextT id len)) by
            rw [HNX2.out, ← I8_append]
            exact Hld.of_owns o6 (fun q h1 h2 => HVS.out.free (Nat.le_trans BM.out.size h1)))
          clear o6 B6 R5 HL5 n5'
          go_wp2_with fail
          have q1 := Below.cellAt BZ.out lvw c1
          have q2 := Below.cellAt BZ.out lvw c2
          have SB2 : ∀ W, Ext (fun q => q = d1 ∨ q = t1) wz W → W.cell? ⟨v, 1, none⟩ = some (.map (some d1)) ∧ W.cell? ⟨v, 2, none⟩ = some (.map (some t1)) := fun W k => ⟨k.cell (fun h => h.elim (fun e => NE.out.1.1 e.symm) (fun e => NE.out.1.2 e.symm)) q1, k.cell (fun h => h.elim (fun e => NE.out.1.1 e.symm) (fun e => NE.out.1.2 e.symm)) q2⟩
          refine wp_region_held_drew (S := fun W => W.cell? ⟨v, 1, none⟩ = some (.map (some d1)) ∧ W.cell? ⟨v, 2, none⟩ = some (.map (some t1))) (by kernel_rfl) (SB2 _ (((Ext.refl (fun q => q = d1 ∨ q = t1) wz).drew))) (fun hHeld => ?_)
          refine wpAnyH_take (i := 0) (v := ?v15) (by simp only [List.getElem?_toArray, List.getElem?_cons_zero]; rfl) (by kernel_rfl) (by kernel_rfl) (by kernel_rfl) (by exact fun _ _ _ h => h) (Or.inl ⟨by rfl, ?h15⟩) (by assumption) ?r15
          case h15 => (intro w hSw; (try dsimp only at hSw); go_simp; try with_reducible rfl)
          try simp only [Act.put, List.setIfInBounds_toArray, List.set_cons_zero, List.set_cons_succ]
          refine wpAnyH_take (i := 1) (v := ?v16) (by simp only [List.getElem?_toArray, List.getElem?_cons_zero, List.getElem?_cons_succ]; rfl) (by kernel_rfl) (by kernel_rfl) (by kernel_rfl) (by exact fun _ _ _ h => h) (Or.inl ⟨by rfl, ?h16⟩) (by assumption) ?r16
          case h16 => (intro w hSw; (try dsimp only at hSw); go_simp; try with_reducible rfl)
          try simp only [Act.put, List.setIfInBounds_toArray, List.set_cons_zero, List.set_cons_succ]
          refine wpAnyH_take (i := 2) (v := ?v17) (by simp only [List.getElem?_toArray, List.getElem?_cons_zero, List.getElem?_cons_succ]; rfl) (by kernel_rfl) (by kernel_rfl) (by kernel_rfl) (by exact fun _ _ _ h => h) (Or.inl ⟨by rfl, ?h17⟩) (by assumption) ?r17
          case h17 => (intro w hSw; (try dsimp only at hSw); go_simp; try with_reducible rfl)
          try simp only [Act.put, List.setIfInBounds_toArray, List.set_cons_zero, List.set_cons_succ]
          refine wpAnyH_take (i := 3) (v := ?v18) (by simp only [List.getElem?_toArray, List.getElem?_cons_zero, List.getElem?_cons_succ]; rfl) (by kernel_rfl) (by kernel_rfl) (by kernel_rfl) (by exact fun _ _ _ h => h) (Or.inl ⟨by rfl, ?h18⟩) (by assumption) ?r18
          case h18 => (intro w hSw; (try dsimp only at hSw); go_simp; try with_reducible rfl)
          try simp only [Act.put, List.setIfInBounds_toArray, List.set_cons_zero, List.set_cons_succ]
          refine wpAnyH_take (i := 4) (v := ?v19) (by simp only [List.getElem?_toArray, List.getElem?_cons_zero, List.getElem?_cons_succ]; rfl) (by kernel_rfl) (by kernel_rfl) (by kernel_rfl) (by exact fun _ _ _ h => h) (Or.inl ⟨by rfl, ?h19⟩) (by assumption) ?r19
          case h19 => (intro w hSw; (try dsimp only at hSw); go_simp; try with_reducible rfl)
          try simp only [Act.put, List.setIfInBounds_toArray, List.set_cons_zero, List.set_cons_succ]
          refine wpAnyH_take (i := 5) (v := ?v20) (by simp only [List.getElem?_toArray, List.getElem?_cons_zero, List.getElem?_cons_succ]; rfl) (by kernel_rfl) (by kernel_rfl) (by kernel_rfl) (by exact fun _ _ _ h => h) (Or.inl ⟨by rfl, ?h20⟩) (by assumption) ?r20
          case h20 => (intro w hSw; (try dsimp only at hSw); go_simp; try with_reducible rfl)
          try simp only [Act.put, List.setIfInBounds_toArray, List.set_cons_zero, List.set_cons_succ]
          refine wpAnyH_take (i := 6) (v := ?v21) (by simp only [List.getElem?_toArray, List.getElem?_cons_zero, List.getElem?_cons_succ]; rfl) (by kernel_rfl) (by kernel_rfl) (by kernel_rfl) (by exact fun _ _ _ h => h) (Or.inl ⟨by rfl, ?h21⟩) (by assumption) ?r21
          case h21 => (intro w hSw; (try dsimp only at hSw); go_simp; try with_reducible rfl)
          try simp only [Act.put, List.setIfInBounds_toArray, List.set_cons_zero, List.set_cons_succ]
          refine wpAnyH_take (i := 7) (v := ?v22) (by simp only [List.getElem?_toArray, List.getElem?_cons_zero, List.getElem?_cons_succ]; rfl) (by kernel_rfl) (by kernel_rfl) (by kernel_rfl) (by exact fun _ _ _ h => h) (Or.inl ⟨by rfl, ?h22⟩) (by assumption) ?r22
          case h22 => (intro w hSw; (try dsimp only at hSw); go_simp; try with_reducible rfl)
          try simp only [Act.put, List.setIfInBounds_toArray, List.set_cons_zero, List.set_cons_succ]
          refine wpAnyH_take (i := 8) (v := ?v23) (by simp only [List.getElem?_toArray, List.getElem?_cons_zero, List.getElem?_cons_succ]; rfl) (by kernel_rfl) (by kernel_rfl) (by kernel_rfl) (by exact fun _ _ _ h => h) (Or.inl ⟨by rfl, ?h23⟩) (by assumption) ?r23
          case h23 => (intro w hSw; (try dsimp only at hSw); go_simp; try with_reducible rfl)
          try simp only [Act.put, List.setIfInBounds_toArray, List.set_cons_zero, List.set_cons_succ]
          refine wpAnyH_take (i := 9) (v := ?v24) (by simp only [List.getElem?_toArray, List.getElem?_cons_zero, List.getElem?_cons_succ]; rfl) (by kernel_rfl) (by kernel_rfl) (by kernel_rfl) (by exact fun _ _ _ h => h) (Or.inl ⟨by rfl, ?h24⟩) (by assumption) ?r24
          case h24 => (intro w hSw; (try dsimp only at hSw); go_simp; try with_reducible rfl)
          try simp only [Act.put, List.setIfInBounds_toArray, List.set_cons_zero, List.set_cons_succ]
          refine wpAnyH_take (i := 10) (v := ?v25) (by simp only [List.getElem?_toArray, List.getElem?_cons_zero, List.getElem?_cons_succ]; rfl) (by kernel_rfl) (by kernel_rfl) (by kernel_rfl) (by exact fun _ _ _ h => h) (Or.inl ⟨by rfl, ?h25⟩) (by assumption) ?r25
          case h25 => (intro w hSw; (try dsimp only at hSw); go_simp; try with_reducible rfl)
          try simp only [Act.put, List.setIfInBounds_toArray, List.set_cons_zero, List.set_cons_succ]
          refine wpAnyH_take (i := 11) (v := ?v26) (by simp only [List.getElem?_toArray, List.getElem?_cons_zero, List.getElem?_cons_succ]; rfl) (by kernel_rfl) (by kernel_rfl) (by kernel_rfl) (by exact fun _ _ _ h => h) (Or.inl ⟨by rfl, ?h26⟩) (by assumption) ?r26
          case h26 => (intro w hSw; (try dsimp only at hSw); go_simp; try with_reducible rfl)
          try simp only [Act.put, List.setIfInBounds_toArray, List.set_cons_zero, List.set_cons_succ]
          refine wpAnyH_take (i := 12) (v := ?v27) (by simp only [List.getElem?_toArray, List.getElem?_cons_zero, List.getElem?_cons_succ]; rfl) (by kernel_rfl) (by kernel_rfl) (by kernel_rfl) (by exact fun _ _ _ h => h) (Or.inl ⟨by rfl, ?h27⟩) (by assumption) ?r27
          case h27 => (intro w hSw; (try dsimp only at hSw); go_simp; try with_reducible rfl)
          try simp only [Act.put, List.setIfInBounds_toArray, List.set_cons_zero, List.set_cons_succ]
          refine wpAnyH_take (i := 14) (v := ?v28) (by simp only [List.getElem?_toArray, List.getElem?_cons_zero, List.getElem?_cons_succ]; rfl) (by kernel_rfl) (by kernel_rfl) (by kernel_rfl) (by exact fun _ _ _ h => h) (Or.inl ⟨by rfl, ?h28⟩) (by assumption) ?r28
          case h28 => (intro w hSw; (try dsimp only at hSw); go_simp; try with_reducible rfl)
          try simp only [Act.put, List.setIfInBounds_toArray, List.set_cons_zero, List.set_cons_succ]
          refine wpAnyH_ready (rs := [13]) (by kernel_rfl) (by simp) ?_
          refine (AllReadyH.cons (by simp only [List.getElem?_toArray, List.getElem?_cons_zero, List.getElem?_cons_succ]; rfl) (fun K hK => ?_) AllReadyH.nil)
          go_simp
          go_at_call 43
          refine (cloneB_any a len cap bs _ (Row.keep (HR.out.below BZ.out (Nat.le_refl _)) (w' := wz.drew) (fun _ => rfl)) HBL.out HN.out (by omega)).mono ?_
          rintro e wc29 ⟨vc29, rfl, oc29, Bc29⟩
          have XC29 : Ext (fun q => q = d1 ∨ q = t1) wz wc29 := (((Ext.refl (fun q => q = d1 ∨ q = t1) wz).drew)).trans (Ext.of_below Bc29 (fun q => q = d1 ∨ q = t1)) (fun i _ h => h)
          refine hK.out _ _ (SB2 _ XC29) (fun hH30 => ?_)
          clear hK
          try simp only [Act.put, List.setIfInBounds_toArray, List.set_cons_zero, List.set_cons_succ]
          refine wpAnyH_ready (rs := [15]) (by kernel_rfl) (by simp) ?_
          refine (AllReadyH.cons (by simp only [List.getElem?_toArray, List.getElem?_cons_zero, List.getElem?_cons_succ]; rfl) (fun K hK => ?_) AllReadyH.nil)
          refine step_mapEntry_im rfl (by rfl) _ _ _ (by rfl) 27 Tryz.underlying65 d1 41 V (by rfl) (((HVM.out.below BZ.out (Nat.le_refl _)).ext (Ext.refl (fun _ => False) wz).drew (fun h => h)).below Bc29 (Nat.le_refl _)) (by unfold maxLen; omega) (.slice none 0 0) (zP _) id (by rfl) hid' ?_
          intro ue31 se31 wm31 IM31 GM31 EN31
          have XM31 : Ext (fun q => q = d1 ∨ q = t1) wz wm31 := (XC29).trans (Ext.of_grown GM31) (fun i _ h => by have h : some d1 = some i := h; simp only [Option.some.injEq] at h; omega)
          refine hK.out _ _ (SB2 _ XM31) (fun hH32 => ?_)
          clear hK
          try simp only [Act.put, List.setIfInBounds_toArray, List.set_cons_zero, List.set_cons_succ]
          refine wpAnyH_take (i := 16) (v := ?v33) (by simp only [List.getElem?_toArray, List.getElem?_cons_zero, List.getElem?_cons_succ]; rfl) (by kernel_rfl) (by kernel_rfl) (by kernel_rfl) (by exact fun _ _ _ h => h) (Or.inl ⟨by rfl, ?h33⟩) (by assumption) ?r33
          case h33 => (intro w hSw; (try dsimp only at hSw); go_simp; try with_reducible rfl)
          try simp only [Act.put, List.setIfInBounds_toArray, List.set_cons_zero, List.set_cons_succ]
          refine wpAnyH_ready (rs := [17]) (by kernel_rfl) (by simp) ?_
          refine (AllReadyH.cons (by simp only [List.getElem?_toArray, List.getElem?_cons_zero, List.getElem?_cons_succ]; rfl) (fun K hK => ?_) AllReadyH.nil)
          refine step_entryStore_im rfl (by rfl) _ _ _ _ (by rfl) 27 Tryz.underlying65 d1 42 _ (by rfl) IM31 (by unfold maxLen; omega) id se31 (vc29) (by rfl) (by rfl) hid' EN31 ?_
          intro wm34 IM34 GM34
          have XM34 : Ext (fun q => q = d1 ∨ q = t1) wz wm34 := (XM31).trans (Ext.of_grown GM34) (fun i _ h => by have h : some d1 = some i := h; simp only [Option.some.injEq] at h; omega)
          refine hK.out _ _ (SB2 _ XM34) (fun hH35 => ?_)
          clear hK
          try simp only [Act.put, List.setIfInBounds_toArray, List.set_cons_zero, List.set_cons_succ]
          refine wpAnyH_ready (rs := [18]) (by kernel_rfl) (by simp) ?_
          refine (AllReadyH.cons (by simp only [List.getElem?_toArray, List.getElem?_cons_zero, List.getElem?_cons_succ]; rfl) (fun K hK => ?_) AllReadyH.nil)
          refine step_mapEntry_im rfl (by rfl) _ _ _ (by rfl) 33 Tryz.underlying66 t1 41 U (by rfl) (((((HUM.out.below BZ.out (Nat.le_refl _)).ext (Ext.refl (fun _ => False) wz).drew (fun h => h)).below Bc29 (Nat.le_refl _)).ext (Ext.of_grown GM31) (by intro h; have h : some d1 = some t1 := h; simp only [Option.some.injEq] at h; exact N1.out h)).ext (Ext.of_grown GM34) (by intro h; have h : some d1 = some t1 := h; simp only [Option.some.injEq] at h; exact N1.out h)) (by unfold maxLen; omega) (.slice none 0 0) (zI' _) id (by rfl) hid' ?_
          intro ue36 se36 wm36 IM36 GM36 EN36
          have XM36 : Ext (fun q => q = d1 ∨ q = t1) wz wm36 := (XM34).trans (Ext.of_grown GM36) (fun i _ h => by have h : some t1 = some i := h; simp only [Option.some.injEq] at h; omega)
          refine hK.out _ _ (SB2 _ XM36) (fun hH37 => ?_)
          clear hK
          try simp only [Act.put, List.setIfInBounds_toArray, List.set_cons_zero, List.set_cons_succ]
          refine wpAnyH_take (i := 19) (v := ?v38) (by simp only [List.getElem?_toArray, List.getElem?_cons_zero, List.getElem?_cons_succ]; rfl) (by kernel_rfl) (by kernel_rfl) (by kernel_rfl) (by exact fun _ _ _ h => h) (Or.inl ⟨by rfl, ?h38⟩) (by assumption) ?r38
          case h38 => (intro w hSw; (try dsimp only at hSw); go_simp; try with_reducible rfl)
          try simp only [Act.put, List.setIfInBounds_toArray, List.set_cons_zero, List.set_cons_succ]
          refine wpAnyH_ready (rs := [20]) (by kernel_rfl) (by simp) ?_
          refine (AllReadyH.cons (by simp only [List.getElem?_toArray, List.getElem?_cons_zero, List.getElem?_cons_succ]; rfl) (fun K hK => ?_) AllReadyH.nil)
          refine step_entryStore_im rfl (by rfl) _ _ _ _ (by rfl) 33 Tryz.underlying66 t1 42 _ (by rfl) IM36 (by unfold maxLen; omega) id se36 (.slice az (tl + mo) cz) (by rfl) (by rfl) hid' EN36 ?_
          intro wm39 IM39 GM39
          have XM39 : Ext (fun q => q = d1 ∨ q = t1) wz wm39 := (XM36).trans (Ext.of_grown GM39) (fun i _ h => by have h : some t1 = some i := h; simp only [Option.some.injEq] at h; omega)
          refine hK.out _ _ (SB2 _ XM39) (fun hH40 => ?_)
          clear hK
          try simp only [Act.put, List.setIfInBounds_toArray, List.set_cons_zero, List.set_cons_succ]
          refine wpAnyH_done (by kernel_rfl) ?_ _
          have XF := hid XM39
          have VF := hid (((IM34.ext (Ext.of_grown GM36) (by intro h; have h : some t1 = some d1 := h; simp only [Option.some.injEq] at h; exact N1.out h.symm)).ext (Ext.of_grown GM39) (by intro h; have h : some t1 = some d1 := h; simp only [Option.some.injEq] at h; exact N1.out h.symm)).congr (T' := fun k => if k = id then some vc29 else V k) (fun k => by by_cases e : k = id <;> simp [e]))
          have UF := hid (IM39.congr (T' := fun k => if k = id then some (.slice az (tl + mo) cz) else U k) (fun k => by by_cases e : k = id <;> simp [e]))
          have hF0 : ∀ q, (q = d1 ∨ q = t1) → inD M q := fun q hq => hq.elim (fun e => by subst e; exact .inr (HV.out.cx _ HV.out.cs.1.1).1.1) (fun e => by subst e; exact .inr (HV.out.cx _ HV.out.cs.1.2).1.1)
          have HB := hid ((Hld.of_owns (D := inD M) oc29 (fun q h1 h2 => HVS.out.free (Nat.le_trans BZ.out.size h1))).step ((((show Ext (fun q => q = d1 ∨ q = t1) wc29 wm31 from (Ext.of_grown GM31).mono (fun i _ h => by have h : some d1 = some i := h; simp only [Option.some.injEq] at h; omega)).trans (show Ext (fun q => q = d1 ∨ q = t1) wm31 wm34 from (Ext.of_grown GM34).mono (fun i _ h => by have h : some d1 = some i := h; simp only [Option.some.injEq] at h; omega)) (fun i _ h => h)).trans (show Ext (fun q => q = d1 ∨ q = t1) wm34 wm36 from (Ext.of_grown GM36).mono (fun i _ h => by have h : some t1 = some i := h; simp only [Option.some.injEq] at h; omega)) (fun i _ h => h)).trans (show Ext (fun q => q = d1 ∨ q = t1) wm36 wm39 from (Ext.of_grown GM39).mono (fun i _ h => by have h : some t1 = some i := h; simp only [Option.some.injEq] at h; omega)) (fun i _ h => h)) hF0 (fun q hq => .inl hq))
          have HU := hid (HNT.out.step XF.out hF0 (fun q hq => .inl hq))
          clear IM31 IM34 IM36 IM39 GM31 GM34 GM36 GM39 EN31 EN36 hF0 oc29
          go_wp2_with fail
          go_ret
          have HP := VSys.putIn HVS.out HV.out BZ.out XF.out OK.out HXM.out (by omega) HB.out HU.out VF.out UF.out
          refine ⟨by rw [hc.out]; rfl, ?_, HP.2⟩
          have ePB : now.putted H L.lost id bs = now.put id (bs, now.nextT id len) := by
            unfold Rcs.putted
            rw [if_pos hc.out]
            unfold Rcs.putB
            rw [HBL.out]
          rw [ePB]
          exact HP.1
        · have i5 : decide ((0 : Int) < (tk : Int) - (tl : Int)) = false := decide_eq_false (by omega)
          have e7 : (tl : Int) + ((tk : Int) - (tl : Int)) = (tk : Int) := by omega
          have HNT := hid (show Hld w4 (inD M) (.slice a4 tk c4) (I8 (now.nextT id len)) by
            obtain ⟨a4', c4', e4', hl4, le4, lm4, r4, lt4, n4⟩ := row_of_owns O4.out
            cases e4'
            have htl0 : 0 < tl := by omega
            have hlen4 : (I8 (ll.take tk)).length = tk := by rw [I8_length, List.length_take, HTL.out]; omega
            rw [HNX.out, if_neg hmore]
            refine ⟨a4, c4, by rw [hlen4], by rw [I8, List.map_take]; exact r4.take tk, by rw [hlen4]; omega, lm4, fun e => absurd (n4 e) (by omega), fun _ => HVS.out.free (Nat.le_trans BM.out.size (lt4 htl0).1)⟩)
          have BZ := BM4
          have HC4 := hid (show tl ≤ c4 from by
            obtain ⟨a4', c4', e4', hl4, le4, -⟩ := row_of_owns O4.out
            cases e4'
            exact le4)
          have hc4 := HC4.out
          go_wp2_with fail
          have q1 := Below.cellAt BZ.out lvw c1
          have q2 := Below.cellAt BZ.out lvw c2
          have SB2 : ∀ W, Ext (fun q => q = d1 ∨ q = t1) w4 W → W.cell? ⟨v, 1, none⟩ = some (.map (some d1)) ∧ W.cell? ⟨v, 2, none⟩ = some (.map (some t1)) := fun W k => ⟨k.cell (fun h => h.elim (fun e => NE.out.1.1 e.symm) (fun e => NE.out.1.2 e.symm)) q1, k.cell (fun h => h.elim (fun e => NE.out.1.1 e.symm) (fun e => NE.out.1.2 e.symm)) q2⟩
          refine wp_region_held_drew (S := fun W => W.cell? ⟨v, 1, none⟩ = some (.map (some d1)) ∧ W.cell? ⟨v, 2, none⟩ = some (.map (some t1))) (by kernel_rfl) (SB2 _ (((Ext.refl (fun q => q = d1 ∨ q = t1) w4).drew))) (fun hHeld => ?_)
          refine wpAnyH_take (i := 0) (v := ?v41) (by simp only [List.getElem?_toArray, List.getElem?_cons_zero]; rfl) (by kernel_rfl) (by kernel_rfl) (by kernel_rfl) (by exact fun _ _ _ h => h) (Or.inl ⟨by rfl, ?h41⟩) (by assumption) ?r41
          case h41 => (intro w hSw; (try dsimp only at hSw); go_simp; try with_reducible rfl)
          try simp only [Act.put, List.setIfInBounds_toArray, List.set_cons_zero, List.set_cons_succ]
          refine wpAnyH_take (i := 1) (v := ?v42) (by simp only [List.getElem?_toArray, List.getElem?_cons_zero, List.getElem?_cons_succ]; rfl) (by kernel_rfl) (by kernel_rfl) (by kernel_rfl) (by exact fun _ _ _ h => h) (Or.inl ⟨by rfl, ?h42⟩) (by assumption) ?r42
          case h42 => (intro w hSw; (try dsimp only at hSw); go_simp; try with_reducible rfl)
          try simp only [Act.put, List.setIfInBounds_toArray, List.set_cons_zero, List.set_cons_succ]
          refine wpAnyH_take (i := 2) (v := ?v43) (by simp only [List.getElem?_toArray, List.getElem?_cons_zero, List.getElem?_cons_succ]; rfl) (by kernel_rfl) (by kernel_rfl) (by kernel_rfl) (by exact fun _ _ _ h => h) (Or.inl ⟨by rfl, ?h43⟩) (by assumption) ?r43
          case h43 => (intro w hSw; (try dsimp only at hSw); go_simp; try with_reducible rfl)
          try simp only [Act.put, List.setIfInBounds_toArray, List.set_cons_zero, List.set_cons_succ]
          refine wpAnyH_take (i := 3) (v := ?v44) (by simp only [List.getElem?_toArray, List.getElem?_cons_zero, List.getElem?_cons_succ]; rfl) (by kernel_rfl) (by kernel_rfl) (by kernel_rfl) (by exact fun _ _ _ h => h) (Or.inl ⟨by rfl, ?h44⟩) (by assumption) ?r44
          case h44 => (intro w hSw; (try dsimp only at hSw); go_simp; try with_reducible rfl)
          try simp only [Act.put, List.setIfInBounds_toArray, List.set_cons_zero, List.set_cons_succ]
          refine wpAnyH_take (i := 4) (v := ?v45) (by simp only [List.getElem?_toArray, List.getElem?_cons_zero, List.getElem?_cons_succ]; rfl) (by kernel_rfl) (by kernel_rfl) (by kernel_rfl) (by exact fun _ _ _ h => h) (Or.inl ⟨by rfl, ?h45⟩) (by assumption) ?r45
          case h45 => (intro w hSw; (try dsimp only at hSw); go_simp; try with_reducible rfl)
          try simp only [Act.put, List.setIfInBounds_toArray, List.set_cons_zero, List.set_cons_succ]
          refine wpAnyH_take (i := 5) (v := ?v46) (by simp only [List.getElem?_toArray, List.getElem?_cons_zero, List.getElem?_cons_succ]; rfl) (by kernel_rfl) (by kernel_rfl) (by kernel_rfl) (by exact fun _ _ _ h => h) (Or.inl ⟨by rfl, ?h46⟩) (by assumption) ?r46
          case h46 => (intro w hSw; (try dsimp only at hSw); go_simp; try with_reducible rfl)
          try simp only [Act.put, List.setIfInBounds_toArray, List.set_cons_zero, List.set_cons_succ]
          refine wpAnyH_take (i := 6) (v := ?v47) (by simp only [List.getElem?_toArray, List.getElem?_cons_zero, List.getElem?_cons_succ]; rfl) (by kernel_rfl) (by kernel_rfl) (by kernel_rfl) (by exact fun _ _ _ h => h) (Or.inl ⟨by rfl, ?h47⟩) (by assumption) ?r47
          case h47 => (intro w hSw; (try dsimp only at hSw); go_simp; try with_reducible rfl)
          try simp only [Act.put, List.setIfInBounds_toArray, List.set_cons_zero, List.set_cons_succ]
          refine wpAnyH_take (i := 7) (v := ?v48) (by simp only [List.getElem?_toArray, List.getElem?_cons_zero, List.getElem?_cons_succ]; rfl) (by kernel_rfl) (by kernel_rfl) (by kernel_rfl) (by exact fun _ _ _ h => h) (Or.inl ⟨by rfl, ?h48⟩) (by assumption) ?r48
          case h48 => (intro w hSw; (try dsimp only at hSw); go_simp; try with_reducible rfl)
          try simp only [Act.put, List.setIfInBounds_toArray, List.set_cons_zero, List.set_cons_succ]
          refine wpAnyH_take (i := 8) (v := ?v49) (by simp only [List.getElem?_toArray, List.getElem?_cons_zero, List.getElem?_cons_succ]; rfl) (by kernel_rfl) (by kernel_rfl) (by kernel_rfl) (by exact fun _ _ _ h => h) (Or.inl ⟨by rfl, ?h49⟩) (by assumption) ?r49
          case h49 => (intro w hSw; (try dsimp only at hSw); go_simp; try with_reducible rfl)
          try simp only [Act.put, List.setIfInBounds_toArray, List.set_cons_zero, List.set_cons_succ]
          refine wpAnyH_take (i := 9) (v := ?v50) (by simp only [List.getElem?_toArray, List.getElem?_cons_zero, List.getElem?_cons_succ]; rfl) (by kernel_rfl) (by kernel_rfl) (by kernel_rfl) (by exact fun _ _ _ h => h) (Or.inl ⟨by rfl, ?h50⟩) (by assumption) ?r50
          case h50 => (intro w hSw; (try dsimp only at hSw); go_simp; try with_reducible rfl)
          try simp only [Act.put, List.setIfInBounds_toArray, List.set_cons_zero, List.set_cons_succ]
          refine wpAnyH_take (i := 10) (v := ?v51) (by simp only [List.getElem?_toArray, List.getElem?_cons_zero, List.getElem?_cons_succ]; rfl) (by kernel_rfl) (by kernel_rfl) (by kernel_rfl) (by exact fun _ _ _ h => h) (Or.inl ⟨by rfl, ?h51⟩) (by assumption) ?r51
          case h51 => (intro w hSw; (try dsimp only at hSw); go_simp; try with_reducible rfl)
          try simp only [Act.put, List.setIfInBounds_toArray, List.set_cons_zero, List.set_cons_succ]
          refine wpAnyH_take (i := 11) (v := ?v52) (by simp only [List.getElem?_toArray, List.getElem?_cons_zero, List.getElem?_cons_succ]; rfl) (by kernel_rfl) (by kernel_rfl) (by kernel_rfl) (by exact fun _ _ _ h => h) (Or.inl ⟨by rfl, ?h52⟩) (by assumption) ?r52
          case h52 => (intro w hSw; (try dsimp only at hSw); go_simp; try with_reducible rfl)
          try simp only [Act.put, List.setIfInBounds_toArray, List.set_cons_zero, List.set_cons_succ]
          refine wpAnyH_take (i := 12) (v := ?v53) (by simp only [List.getElem?_toArray, List.getElem?_cons_zero, List.getElem?_cons_succ]; rfl) (by kernel_rfl) (by kernel_rfl) (by kernel_rfl) (by exact fun _ _ _ h => h) (Or.inl ⟨by rfl, ?h53⟩) (by assumption) ?r53
          case h53 => (intro w hSw; (try dsimp only at hSw); go_simp; try with_reducible rfl)
          try simp only [Act.put, List.setIfInBounds_toArray, List.set_cons_zero, List.set_cons_succ]
          refine wpAnyH_take (i := 14) (v := ?v54) (by simp only [List.getElem?_toArray, List.getElem?_cons_zero, List.getElem?_cons_succ]; rfl) (by kernel_rfl) (by kernel_rfl) (by kernel_rfl) (by exact fun _ _ _ h => h) (Or.inl ⟨by rfl, ?h54⟩) (by assumption) ?r54
          case h54 => (intro w hSw; (try dsimp only at hSw); go_simp; try with_reducible rfl)
          try simp only [Act.put, List.setIfInBounds_toArray, List.set_cons_zero, List.set_cons_succ]
          refine wpAnyH_ready (rs := [13]) (by kernel_rfl) (by simp) ?_
          refine (AllReadyH.cons (by simp only [List.getElem?_toArray, List.getElem?_cons_zero, List.getElem?_cons_succ]; rfl) (fun K hK => ?_) AllReadyH.nil)
          go_simp
          go_at_call 43
          refine (cloneB_any a len cap bs _ (Row.keep (HR.out.below BZ.out (Nat.le_refl _)) (w' := w4.drew) (fun _ => rfl)) HBL.out HN.out (by omega)).mono ?_
          rintro e wc55 ⟨vc55, rfl, oc55, Bc55⟩
          have XC55 : Ext (fun q => q = d1 ∨ q = t1) w4 wc55 := (((Ext.refl (fun q => q = d1 ∨ q = t1) w4).drew)).trans (Ext.of_below Bc55 (fun q => q = d1 ∨ q = t1)) (fun i _ h => h)
          refine hK.out _ _ (SB2 _ XC55) (fun hH56 => ?_)
          clear hK
          try simp only [Act.put, List.setIfInBounds_toArray, List.set_cons_zero, List.set_cons_succ]
          refine wpAnyH_ready (rs := [15]) (by kernel_rfl) (by simp) ?_
          refine (AllReadyH.cons (by simp only [List.getElem?_toArray, List.getElem?_cons_zero, List.getElem?_cons_succ]; rfl) (fun K hK => ?_) AllReadyH.nil)
          refine step_mapEntry_im rfl (by rfl) _ _ _ (by rfl) 27 Tryz.underlying65 d1 41 V (by rfl) (((HVM.out.below BZ.out (Nat.le_refl _)).ext (Ext.refl (fun _ => False) w4).drew (fun h => h)).below Bc55 (Nat.le_refl _)) (by unfold maxLen; omega) (.slice none 0 0) (zP _) id (by rfl) hid' ?_
          intro ue57 se57 wm57 IM57 GM57 EN57
          have XM57 : Ext (fun q => q = d1 ∨ q = t1) w4 wm57 := (XC55).trans (Ext.of_grown GM57) (fun i _ h => by have h : some d1 = some i := h; simp only [Option.some.injEq] at h; omega)
          refine hK.out _ _ (SB2 _ XM57) (fun hH58 => ?_)
          clear hK
          try simp only [Act.put, List.setIfInBounds_toArray, List.set_cons_zero, List.set_cons_succ]
          refine wpAnyH_take (i := 16) (v := ?v59) (by simp only [List.getElem?_toArray, List.getElem?_cons_zero, List.getElem?_cons_succ]; rfl) (by kernel_rfl) (by kernel_rfl) (by kernel_rfl) (by exact fun _ _ _ h => h) (Or.inl ⟨by rfl, ?h59⟩) (by assumption) ?r59
          case h59 => (intro w hSw; (try dsimp only at hSw); go_simp; try with_reducible rfl)
          try simp only [Act.put, List.setIfInBounds_toArray, List.set_cons_zero, List.set_cons_succ]
          refine wpAnyH_ready (rs := [17]) (by kernel_rfl) (by simp) ?_
          refine (AllReadyH.cons (by simp only [List.getElem?_toArray, List.getElem?_cons_zero, List.getElem?_cons_succ]; rfl) (fun K hK => ?_) AllReadyH.nil)
          refine step_entryStore_im rfl (by rfl) _ _ _ _ (by rfl) 27 Tryz.underlying65 d1 42 _ (by rfl) IM57 (by unfold maxLen; omega) id se57 (vc55) (by rfl) (by rfl) hid' EN57 ?_
          intro wm60 IM60 GM60
          have XM60 : Ext (fun q => q = d1 ∨ q = t1) w4 wm60 := (XM57).trans (Ext.of_grown GM60) (fun i _ h => by have h : some d1 = some i := h; simp only [Option.some.injEq] at h; omega)
          refine hK.out _ _ (SB2 _ XM60) (fun hH61 => ?_)
          clear hK
          try simp only [Act.put, List.setIfInBounds_toArray, List.set_cons_zero, List.set_cons_succ]
          refine wpAnyH_ready (rs := [18]) (by kernel_rfl) (by simp) ?_
          refine (AllReadyH.cons (by simp only [List.getElem?_toArray, List.getElem?_cons_zero, List.getElem?_cons_succ]; rfl) (fun K hK => ?_) AllReadyH.nil)
          refine step_mapEntry_im rfl (by rfl) _ _ _ (by rfl) 33 Tryz.underlying66 t1 41 U (by rfl) (((((HUM.out.below BZ.out (Nat.le_refl _)).ext (Ext.refl (fun _ => False) w4).drew (fun h => h)).below Bc55 (Nat.le_refl _)).ext (Ext.of_grown GM57) (by intro h; have h : some d1 = some t1 := h; simp only [Option.some.injEq] at h; exact N1.out h)).ext (Ext.of_grown GM60) (by intro h; have h : some d1 = some t1 := h; simp only [Option.some.injEq] at h; exact N1.out h)) (by unfold maxLen; omega) (.slice none 0 0) (zI' _) id (by rfl) hid' ?_
          intro ue62 se62 wm62 IM62 GM62 EN62
          have XM62 : Ext (fun q => q = d1 ∨ q = t1) w4 wm62 := (XM60).trans (Ext.of_grown GM62) (fun i _ h => by have h : some t1 = some i := h; simp only [Option.some.injEq] at h; omega)
          refine hK.out _ _ (SB2 _ XM62) (fun hH63 => ?_)
          clear hK
          try simp only [Act.put, List.setIfInBounds_toArray, List.set_cons_zero, List.set_cons_succ]
          refine wpAnyH_take (i := 19) (v := ?v64) (by simp only [List.getElem?_toArray, List.getElem?_cons_zero, List.getElem?_cons_succ]; rfl) (by kernel_rfl) (by kernel_rfl) (by kernel_rfl) (by exact fun _ _ _ h => h) (Or.inl ⟨by rfl, ?h64⟩) (by assumption) ?r64
          case h64 => (intro w hSw; (try dsimp only at hSw); go_simp; try with_reducible rfl)
          try simp only [Act.put, List.setIfInBounds_toArray, List.set_cons_zero, List.set_cons_succ]
          refine wpAnyH_ready (rs := [20]) (by kernel_rfl) (by simp) ?_
          refine (AllReadyH.cons (by simp only [List.getElem?_toArray, List.getElem?_cons_zero, List.getElem?_cons_succ]; rfl) (fun K hK => ?_) AllReadyH.nil)
          refine step_entryStore_im rfl (by rfl) _ _ _ _ (by rfl) 33 Tryz.underlying66 t1 42 _ (by rfl) IM62 (by unfold maxLen; omega) id se62 (.slice a4 tk c4) (by rfl) (by rfl) hid' EN62 ?_
          intro wm65 IM65 GM65
          have XM65 : Ext (fun q => q = d1 ∨ q = t1) w4 wm65 := (XM62).trans (Ext.of_grown GM65) (fun i _ h => by have h : some t1 = some i := h; simp only [Option.some.injEq] at h; omega)
          refine hK.out _ _ (SB2 _ XM65) (fun hH66 => ?_)
          clear hK
          try simp only [Act.put, List.setIfInBounds_toArray, List.set_cons_zero, List.set_cons_succ]
          refine wpAnyH_done (by kernel_rfl) ?_ _
          have XF := hid XM65
          have VF := hid (((IM60.ext (Ext.of_grown GM62) (by intro h; have h : some t1 = some d1 := h; simp only [Option.some.injEq] at h; exact N1.out h.symm)).ext (Ext.of_grown GM65) (by intro h; have h : some t1 = some d1 := h; simp only [Option.some.injEq] at h; exact N1.out h.symm)).congr (T' := fun k => if k = id then some vc55 else V k) (fun k => by by_cases e : k = id <;> simp [e]))
          have UF := hid (IM65.congr (T' := fun k => if k = id then some (.slice a4 tk c4) else U k) (fun k => by by_cases e : k = id <;> simp [e]))
          have hF0 : ∀ q, (q = d1 ∨ q = t1) → inD M q := fun q hq => hq.elim (fun e => by subst e; exact .inr (HV.out.cx _ HV.out.cs.1.1).1.1) (fun e => by subst e; exact .inr (HV.out.cx _ HV.out.cs.1.2).1.1)
          have HB := hid ((Hld.of_owns (D := inD M) oc55 (fun q h1 h2 => HVS.out.free (Nat.le_trans BZ.out.size h1))).step ((((show Ext (fun q => q = d1 ∨ q = t1) wc55 wm57 from (Ext.of_grown GM57).mono (fun i _ h => by have h : some d1 = some i := h; simp only [Option.some.injEq] at h; omega)).trans (show Ext (fun q => q = d1 ∨ q = t1) wm57 wm60 from (Ext.of_grown GM60).mono (fun i _ h => by have h : some d1 = some i := h; simp only [Option.some.injEq] at h; omega)) (fun i _ h => h)).trans (show Ext (fun q => q = d1 ∨ q = t1) wm60 wm62 from (Ext.of_grown GM62).mono (fun i _ h => by have h : some t1 = some i := h; simp only [Option.some.injEq] at h; omega)) (fun i _ h => h)).trans (show Ext (fun q => q = d1 ∨ q = t1) wm62 wm65 from (Ext.of_grown GM65).mono (fun i _ h => by have h : some t1 = some i := h; simp only [Option.some.injEq] at h; omega)) (fun i _ h => h)) hF0 (fun q hq => .inl hq))
          have HU := hid (HNT.out.step XF.out hF0 (fun q hq => .inl hq))
          clear IM57 IM60 IM62 IM65 GM57 GM60 GM62 GM65 EN57 EN62 hF0 oc55
          go_wp2_with fail
          go_ret
          have HP := VSys.putIn HVS.out HV.out BZ.out XF.out OK.out HXM.out (by omega) HB.out HU.out VF.out UF.out
          refine ⟨by rw [hc.out]; rfl, ?_, HP.2⟩
          have ePB : now.putted H L.lost id bs = now.put id (bs, now.nextT id len) := by
            unfold Rcs.putted
            rw [if_pos hc.out]
            unfold Rcs.putB
            rw [HBL.out]
          rw [ePB]
          exact HP.1
    | false =>
      have BM := BW2
      have m1 := Below.cellAt BM.out lvw c1
      have m2 := Below.cellAt BM.out lvw c2
      have luW := HLU.out w2 BM.out
      have CL := cloneI_any ta tl tc ll w2 (HROW.out.below BM.out (Nat.le_refl _)) HTL.out HTN.out (by omega)
      go_wp2_with fail
      refine CL.mono ?_
      rintro e w4 ⟨v4, rfl, o4, B4⟩
      clear CL luW
      obtain ⟨a4, c4, rfl⟩ := owns_slice o4
      have O4 := hid o4
      have SM4 := hid (show w2.heap.size ≤ w4.heap.size from B4.size)
      have BM4 := hid (BM.out.trans (B4.mono BM.out.size))
      have n1 := Below.cellAt BM4.out lvw c1
      have n2 := Below.cellAt BM4.out lvw c2
      clear o4 B4 m1 m2
      have HNX := hid (show now.nextT id len = if tl < tk then ll ++ now.freeL (tk - tl) else ll.take tk by unfold Rcs.nextT; rw [HTK.out, HLL.out, HTL.out])
      by_cases hmore : tl < tk
      · obtain ⟨mo, hmo⟩ : ∃ mo, tk = tl + mo := ⟨tk - tl, by omega⟩
        have HMO := hid hmo
        have i5' : decide ((0 : Int) < (mo : Int)) = true := decide_eq_true (by omega)
        have e5 : (tk : Int) - (tl : Int) = (mo : Int) := by omega
        have FREE := free_any (HV.out.now.below BM4.out (Nat.le_refl _)) OK.out (by omega) (by omega) mo (by have := HUS.out; omega)
        have HNX2 := hid (show now.nextT id len = ll ++ now.freeL mo by rw [HNX.out, if_pos hmore, show tk - tl = mo by omega])
        have mob : mo ≤ 20000 := by omega
        clear hmo
        go_wp2_with fail
        refine FREE.mono ?_
        rintro e w5 ⟨v5, rfl, o5, B5⟩
        clear FREE
        obtain ⟨a5, c5, rfl, hl5, -, -, r5, -, n5⟩ := row_of_owns o5
        have n5' : a5 = none → mo = 0 ∧ c5 = 0 := fun e => by have := n5 e; omega
        have R5 := hid r5
        have HL5 := hid hl5
        have O45 := hid (Below.owns B5 (Nat.le_refl _) O4.out)
        have BM5 := hid (BM4.out.trans (B5.mono BM4.out.size))
        have SM5 := hid (show w2.heap.size ≤ w5.heap.size from Nat.le_trans SM4.out B5.size)
        clear o5 B5 r5 hl5 n5
        go_wp2_with (first | (at_builtin; refine wpList_append_row (P := Tryz.prog) rfl _ _ 33 rfl w2.heap.size 3 iI0 (.int .i64 0) Tryz.underlying33 hiI hI0 hI1 (by omega) rfl _ tl _ rfl O45.out a5 mo c5 (I8 (now.freeL mo)) rfl R5.out HL5.out n5' (I8_one _) (by omega) SM5.out ?_) | fail)
        intro v6 wz o6 B6 _
        obtain ⟨az, cz, rfl⟩ := owns_slice o6
        have BZ := hid (BM5.out.trans (B6.mono BM.out.size))
        have HNT := hid (show Hld wz (inD M) (.slice az (tl + mo) cz) (I8 (now.nextT id len)) by
          rw [HNX2.out, ← I8_append]
          exact Hld.of_owns o6 (fun q h1 h2 => HVS.out.free (Nat.le_trans BM.out.size h1)))
        clear o6 B6 R5 HL5 n5'
        go_wp2_with fail
        have q1 := Below.cellAt BZ.out lvw c1
        have q2 := Below.cellAt BZ.out lvw c2
        have SB2 : ∀ W, Ext (fun q => q = d1 ∨ q = t1) wz W → W.cell? ⟨v, 1, none⟩ = some (.map (some d1)) ∧ W.cell? ⟨v, 2, none⟩ = some (.map (some t1)) := fun W k => ⟨k.cell (fun h => h.elim (fun e => NE.out.1.1 e.symm) (fun e => NE.out.1.2 e.symm)) q1, k.cell (fun h => h.elim (fun e => NE.out.1.1 e.symm) (fun e => NE.out.1.2 e.symm)) q2⟩
        refine wp_region_held_drew (S := fun W => W.cell? ⟨v, 1, none⟩ = some (.map (some d1)) ∧ W.cell? ⟨v, 2, none⟩ = some (.map (some t1))) (by kernel_rfl) (SB2 _ (((Ext.refl (fun q => q = d1 ∨ q = t1) wz).drew))) (fun hHeld => ?_)
        refine wpAnyH_take (i := 0) (v := ?v67) (by simp only [List.getElem?_toArray, List.getElem?_cons_zero]; rfl) (by kernel_rfl) (by kernel_rfl) (by kernel_rfl) (by exact fun _ _ _ h => h) (Or.inl ⟨by rfl, ?h67⟩) (by assumption) ?r67
        case h67 => (intro w hSw; (try dsimp only at hSw); go_simp; try with_reducible rfl)
        try simp only [Act.put, List.setIfInBounds_toArray, List.set_cons_zero, List.set_cons_succ]
        refine wpAnyH_take (i := 1) (v := ?v68) (by simp only [List.getElem?_toArray, List.getElem?_cons_zero, List.getElem?_cons_succ]; rfl) (by kernel_rfl) (by kernel_rfl) (by kernel_rfl) (by exact fun _ _ _ h => h) (Or.inl ⟨by rfl, ?h68⟩) (by assumption) ?r68
        case h68 => (intro w hSw; (try dsimp only at hSw); go_simp; try with_reducible rfl)
        try simp only [Act.put, List.setIfInBounds_toArray, List.set_cons_zero, List.set_cons_succ]
        refine wpAnyH_take (i := 2) (v := ?v69) (by simp only [List.getElem?_toArray, List.getElem?_cons_zero, List.getElem?_cons_succ]; rfl) (by kernel_rfl) (by kernel_rfl) (by kernel_rfl) (by exact fun _ _ _ h => h) (Or.inl ⟨by rfl, ?h69⟩) (by assumption) ?r69
        case h69 => (intro w hSw; (try dsimp only at hSw); go_simp; try with_reducible rfl)
        try simp only [Act.put, List.setIfInBounds_toArray, List.set_cons_zero, List.set_cons_succ]
        refine wpAnyH_take (i := 3) (v := ?v70) (by simp only [List.getElem?_toArray, List.getElem?_cons_zero, List.getElem?_cons_succ]; rfl) (by kernel_rfl) (by kernel_rfl) (by kernel_rfl) (by exact fun _ _ _ h => h) (Or.inl ⟨by rfl, ?h70⟩) (by assumption) ?r70
        case h70 => (intro w hSw; (try dsimp only at hSw); go_simp; try with_reducible rfl)
        try simp only [Act.put, List.setIfInBounds_toArray, List.set_cons_zero, List.set_cons_succ]
        refine wpAnyH_take (i := 4) (v := ?v71) (by simp only [List.getElem?_toArray, List.getElem?_cons_zero, List.getElem?_cons_succ]; rfl) (by kernel_rfl) (by kernel_rfl) (by kernel_rfl) (by exact fun _ _ _ h => h) (Or.inl ⟨by rfl, ?h71⟩) (by assumption) ?r71
        case h71 => (intro w hSw; (try dsimp only at hSw); go_simp; try with_reducible rfl)
        try simp only [Act.put, List.setIfInBounds_toArray, List.set_cons_zero, List.set_cons_succ]
        refine wpAnyH_take (i := 5) (v := ?v72) (by simp only [List.getElem?_toArray, List.getElem?_cons_zero, List.getElem?_cons_succ]; rfl) (by kernel_rfl) (by kernel_rfl) (by kernel_rfl) (by exact fun _ _ _ h => h) (Or.inl ⟨by rfl, ?h72⟩) (by assumption) ?r72
        case h72 => (intro w hSw; (try dsimp only at hSw); go_simp; try with_reducible rfl)
        try simp only [Act.put, List.setIfInBounds_toArray, List.set_cons_zero, List.set_cons_succ]
        refine wpAnyH_take (i := 6) (v := ?v73) (by simp only [List.getElem?_toArray, List.getElem?_cons_zero, List.getElem?_cons_succ]; rfl) (by kernel_rfl) (by kernel_rfl) (by kernel_rfl) (by exact fun _ _ _ h => h) (Or.inl ⟨by rfl, ?h73⟩) (by assumption) ?r73
        case h73 => (intro w hSw; (try dsimp only at hSw); go_simp; try with_reducible rfl)
        try simp only [Act.put, List.setIfInBounds_toArray, List.set_cons_zero, List.set_cons_succ]
        refine wpAnyH_take (i := 7) (v := ?v74) (by simp only [List.getElem?_toArray, List.getElem?_cons_zero, List.getElem?_cons_succ]; rfl) (by kernel_rfl) (by kernel_rfl) (by kernel_rfl) (by exact fun _ _ _ h => h) (Or.inl ⟨by rfl, ?h74⟩) (by assumption) ?r74
        case h74 => (intro w hSw; (try dsimp only at hSw); go_simp; try with_reducible rfl)
        try simp only [Act.put, List.setIfInBounds_toArray, List.set_cons_zero, List.set_cons_succ]
        refine wpAnyH_take (i := 8) (v := ?v75) (by simp only [List.getElem?_toArray, List.getElem?_cons_zero, List.getElem?_cons_succ]; rfl) (by kernel_rfl) (by kernel_rfl) (by kernel_rfl) (by exact fun _ _ _ h => h) (Or.inl ⟨by rfl, ?h75⟩) (by assumption) ?r75
        case h75 => (intro w hSw; (try dsimp only at hSw); go_simp; try with_reducible rfl)
        try simp only [Act.put, List.setIfInBounds_toArray, List.set_cons_zero, List.set_cons_succ]
        refine wpAnyH_take (i := 9) (v := ?v76) (by simp only [List.getElem?_toArray, List.getElem?_cons_zero, List.getElem?_cons_succ]; rfl) (by kernel_rfl) (by kernel_rfl) (by kernel_rfl) (by exact fun _ _ _ h => h) (Or.inl ⟨by rfl, ?h76⟩) (by assumption) ?r76
        case h76 => (intro w hSw; (try dsimp only at hSw); go_simp; try with_reducible rfl)
        try simp only [Act.put, List.setIfInBounds_toArray, List.set_cons_zero, List.set_cons_succ]
        refine wpAnyH_take (i := 10) (v := ?v77) (by simp only [List.getElem?_toArray, List.getElem?_cons_zero, List.getElem?_cons_succ]; rfl) (by kernel_rfl) (by kernel_rfl) (by kernel_rfl) (by exact fun _ _ _ h => h) (Or.inl ⟨by rfl, ?h77⟩) (by assumption) ?r77
        case h77 => (intro w hSw; (try dsimp only at hSw); go_simp; try with_reducible rfl)
        try simp only [Act.put, List.setIfInBounds_toArray, List.set_cons_zero, List.set_cons_succ]
        refine wpAnyH_take (i := 11) (v := ?v78) (by simp only [List.getElem?_toArray, List.getElem?_cons_zero, List.getElem?_cons_succ]; rfl) (by kernel_rfl) (by kernel_rfl) (by kernel_rfl) (by exact fun _ _ _ h => h) (Or.inl ⟨by rfl, ?h78⟩) (by assumption) ?r78
        case h78 => (intro w hSw; (try dsimp only at hSw); go_simp; try with_reducible rfl)
        try simp only [Act.put, List.setIfInBounds_toArray, List.set_cons_zero, List.set_cons_succ]
        refine wpAnyH_take (i := 12) (v := ?v79) (by simp only [List.getElem?_toArray, List.getElem?_cons_zero, List.getElem?_cons_succ]; rfl) (by kernel_rfl) (by kernel_rfl) (by kernel_rfl) (by exact fun _ _ _ h => h) (Or.inl ⟨by rfl, ?h79⟩) (by assumption) ?r79
        case h79 => (intro w hSw; (try dsimp only at hSw); go_simp; try with_reducible rfl)
        try simp only [Act.put, List.setIfInBounds_toArray, List.set_cons_zero, List.set_cons_succ]
        refine wpAnyH_take (i := 14) (v := ?v80) (by simp only [List.getElem?_toArray, List.getElem?_cons_zero, List.getElem?_cons_succ]; rfl) (by kernel_rfl) (by kernel_rfl) (by kernel_rfl) (by exact fun _ _ _ h => h) (Or.inl ⟨by rfl, ?h80⟩) (by assumption) ?r80
        case h80 => (intro w hSw; (try dsimp only at hSw); go_simp; try with_reducible rfl)
        try simp only [Act.put, List.setIfInBounds_toArray, List.set_cons_zero, List.set_cons_succ]
        refine wpAnyH_ready (rs := [13]) (by kernel_rfl) (by simp) ?_
        refine (AllReadyH.cons (by simp only [List.getElem?_toArray, List.getElem?_cons_zero, List.getElem?_cons_succ]; rfl) (fun K hK => ?_) AllReadyH.nil)
        go_simp
        go_at_call 43
        refine (cloneB_any a len cap bs _ (Row.keep (HR.out.below BZ.out (Nat.le_refl _)) (w' := wz.drew) (fun _ => rfl)) HBL.out HN.out (by omega)).mono ?_
        rintro e wc81 ⟨vc81, rfl, oc81, Bc81⟩
        have XC81 : Ext (fun q => q = d1 ∨ q = t1) wz wc81 := (((Ext.refl (fun q => q = d1 ∨ q = t1) wz).drew)).trans (Ext.of_below Bc81 (fun q => q = d1 ∨ q = t1)) (fun i _ h => h)
        refine hK.out _ _ (SB2 _ XC81) (fun hH82 => ?_)
        clear hK
        try simp only [Act.put, List.setIfInBounds_toArray, List.set_cons_zero, List.set_cons_succ]
        refine wpAnyH_ready (rs := [15]) (by kernel_rfl) (by simp) ?_
        refine (AllReadyH.cons (by simp only [List.getElem?_toArray, List.getElem?_cons_zero, List.getElem?_cons_succ]; rfl) (fun K hK => ?_) AllReadyH.nil)
        refine step_mapEntry_im rfl (by rfl) _ _ _ (by rfl) 27 Tryz.underlying65 d1 41 V (by rfl) (((HVM.out.below BZ.out (Nat.le_refl _)).ext (Ext.refl (fun _ => False) wz).drew (fun h => h)).below Bc81 (Nat.le_refl _)) (by unfold maxLen; omega) (.slice none 0 0) (zP _) id (by rfl) hid' ?_
        intro ue83 se83 wm83 IM83 GM83 EN83
        have XM83 : Ext (fun q => q = d1 ∨ q = t1) wz wm83 := (XC81).trans (Ext.of_grown GM83) (fun i _ h => by have h : some d1 = some i := h; simp only [Option.some.injEq] at h; omega)
        refine hK.out _ _ (SB2 _ XM83) (fun hH84 => ?_)
        clear hK
        try simp only [Act.put, List.setIfInBounds_toArray, List.set_cons_zero, List.set_cons_succ]
        refine wpAnyH_take (i := 16) (v := ?v85) (by simp only [List.getElem?_toArray, List.getElem?_cons_zero, List.getElem?_cons_succ]; rfl) (by kernel_rfl) (by kernel_rfl) (by kernel_rfl) (by exact fun _ _ _ h => h) (Or.inl ⟨by rfl, ?h85⟩) (by assumption) ?r85
        case h85 => (intro w hSw; (try dsimp only at hSw); go_simp; try with_reducible rfl)
        try simp only [Act.put, List.setIfInBounds_toArray, List.set_cons_zero, List.set_cons_succ]
        refine wpAnyH_ready (rs := [17]) (by kernel_rfl) (by simp) ?_
        refine (AllReadyH.cons (by simp only [List.getElem?_toArray, List.getElem?_cons_zero, List.getElem?_cons_succ]; rfl) (fun K hK => ?_) AllReadyH.nil)
        refine step_entryStore_im rfl (by rfl) _ _ _ _ (by rfl) 27 Tryz.underlying65 d1 42 _ (by rfl) IM83 (by unfold maxLen; omega) id se83 (vc81) (by rfl) (by rfl) hid' EN83 ?_
        intro wm86 IM86 GM86
        have XM86 : Ext (fun q => q = d1 ∨ q = t1) wz wm86 := (XM83).trans (Ext.of_grown GM86) (fun i _ h => by have h : some d1 = some i := h; simp only [Option.some.injEq] at h; omega)
        refine hK.out _ _ (SB2 _ XM86) (fun hH87 => ?_)
        clear hK
        try simp only [Act.put, List.setIfInBounds_toArray, List.set_cons_zero, List.set_cons_succ]
        refine wpAnyH_ready (rs := [18]) (by kernel_rfl) (by simp) ?_
        refine (AllReadyH.cons (by simp only [List.getElem?_toArray, List.getElem?_cons_zero, List.getElem?_cons_succ]; rfl) (fun K hK => ?_) AllReadyH.nil)
        refine step_mapEntry_im rfl (by rfl) _ _ _ (by rfl) 33 Tryz.underlying66 t1 41 U (by rfl) (((((HUM.out.below BZ.out (Nat.le_refl _)).ext (Ext.refl (fun _ => False) wz).drew (fun h => h)).below Bc81 (Nat.le_refl _)).ext (Ext.of_grown GM83) (by intro h; have h : some d1 = some t1 := h; simp only [Option.some.injEq] at h; exact N1.out h)).ext (Ext.of_grown GM86) (by intro h; have h : some d1 = some t1 := h; simp only [Option.some.injEq] at h; exact N1.out h)) (by unfold maxLen; omega) (.slice none 0 0) (zI' _) id (by rfl) hid' ?_
        intro ue88 se88 wm88 IM88 GM88 EN88
        have XM88 : Ext (fun q => q = d1 ∨ q = t1) wz wm88 := (XM86).trans (Ext.of_grown GM88) (fun i _ h => by have h : some t1 = some i := h; simp only [Option.some.injEq] at h; omega)
        refine hK.out _ _ (SB2 _ XM88) (fun hH89 => ?_)
        clear hK
        try simp only [Act.put, List.setIfInBounds_toArray, List.set_cons_zero, List.set_cons_succ]
        refine wpAnyH_take (i := 19) (v := ?v90) (by simp only [List.getElem?_toArray, List.getElem?_cons_zero, List.getElem?_cons_succ]; rfl) (by kernel_rfl) (by kernel_rfl) (by kernel_rfl) (by exact fun _ _ _ h => h) (Or.inl ⟨by rfl, ?h90⟩) (by assumption) ?r90
        case h90 => (intro w hSw; (try dsimp only at hSw); go_simp; try with_reducible rfl)
        try simp only [Act.put, List.setIfInBounds_toArray, List.set_cons_zero, List.set_cons_succ]
        refine wpAnyH_ready (rs := [20]) (by kernel_rfl) (by simp) ?_
        refine (AllReadyH.cons (by simp only [List.getElem?_toArray, List.getElem?_cons_zero, List.getElem?_cons_succ]; rfl) (fun K hK => ?_) AllReadyH.nil)
        refine step_entryStore_im rfl (by rfl) _ _ _ _ (by rfl) 33 Tryz.underlying66 t1 42 _ (by rfl) IM88 (by unfold maxLen; omega) id se88 (.slice az (tl + mo) cz) (by rfl) (by rfl) hid' EN88 ?_
        intro wm91 IM91 GM91
        have XM91 : Ext (fun q => q = d1 ∨ q = t1) wz wm91 := (XM88).trans (Ext.of_grown GM91) (fun i _ h => by have h : some t1 = some i := h; simp only [Option.some.injEq] at h; omega)
        refine hK.out _ _ (SB2 _ XM91) (fun hH92 => ?_)
        clear hK
        try simp only [Act.put, List.setIfInBounds_toArray, List.set_cons_zero, List.set_cons_succ]
        refine wpAnyH_done (by kernel_rfl) ?_ _
        have XF := hid XM91
        have VF := hid (((IM86.ext (Ext.of_grown GM88) (by intro h; have h : some t1 = some d1 := h; simp only [Option.some.injEq] at h; exact N1.out h.symm)).ext (Ext.of_grown GM91) (by intro h; have h : some t1 = some d1 := h; simp only [Option.some.injEq] at h; exact N1.out h.symm)).congr (T' := fun k => if k = id then some vc81 else V k) (fun k => by by_cases e : k = id <;> simp [e]))
        have UF := hid (IM91.congr (T' := fun k => if k = id then some (.slice az (tl + mo) cz) else U k) (fun k => by by_cases e : k = id <;> simp [e]))
        have hF0 : ∀ q, (q = d1 ∨ q = t1) → inD M q := fun q hq => hq.elim (fun e => by subst e; exact .inr (HV.out.cx _ HV.out.cs.1.1).1.1) (fun e => by subst e; exact .inr (HV.out.cx _ HV.out.cs.1.2).1.1)
        have HB := hid ((Hld.of_owns (D := inD M) oc81 (fun q h1 h2 => HVS.out.free (Nat.le_trans BZ.out.size h1))).step ((((show Ext (fun q => q = d1 ∨ q = t1) wc81 wm83 from (Ext.of_grown GM83).mono (fun i _ h => by have h : some d1 = some i := h; simp only [Option.some.injEq] at h; omega)).trans (show Ext (fun q => q = d1 ∨ q = t1) wm83 wm86 from (Ext.of_grown GM86).mono (fun i _ h => by have h : some d1 = some i := h; simp only [Option.some.injEq] at h; omega)) (fun i _ h => h)).trans (show Ext (fun q => q = d1 ∨ q = t1) wm86 wm88 from (Ext.of_grown GM88).mono (fun i _ h => by have h : some t1 = some i := h; simp only [Option.some.injEq] at h; omega)) (fun i _ h => h)).trans (show Ext (fun q => q = d1 ∨ q = t1) wm88 wm91 from (Ext.of_grown GM91).mono (fun i _ h => by have h : some t1 = some i := h; simp only [Option.some.injEq] at h; omega)) (fun i _ h => h)) hF0 (fun q hq => .inl hq))
        have HU := hid (HNT.out.step XF.out hF0 (fun q hq => .inl hq))
        clear IM83 IM86 IM88 IM91 GM83 GM86 GM88 GM91 EN83 EN88 hF0 oc81
        go_wp2_with fail
        go_ret
        have HP := VSys.putIn HVS.out HV.out BZ.out XF.out OK.out HXM.out (by omega) HB.out HU.out VF.out UF.out
        refine ⟨by rw [hc.out]; rfl, ?_, HP.2⟩
        have ePB : now.putted H L.lost id bs = now.put id (bs, now.nextT id len) := by
          unfold Rcs.putted
          rw [if_pos hc.out]
          unfold Rcs.putB
          rw [HBL.out]
        rw [ePB]
        exact HP.1
      · have i5 : decide ((0 : Int) < (tk : Int) - (tl : Int)) = false := decide_eq_false (by omega)
        have e7 : (tl : Int) + ((tk : Int) - (tl : Int)) = (tk : Int) := by omega
        have HNT := hid (show Hld w4 (inD M) (.slice a4 tk c4) (I8 (now.nextT id len)) by
          obtain ⟨a4', c4', e4', hl4, le4, lm4, r4, lt4, n4⟩ := row_of_owns O4.out
          cases e4'
          have htl0 : 0 < tl := by omega
          have hlen4 : (I8 (ll.take tk)).length = tk := by rw [I8_length, List.length_take, HTL.out]; omega
          rw [HNX.out, if_neg hmore]
          refine ⟨a4, c4, by rw [hlen4], by rw [I8, List.map_take]; exact r4.take tk, by rw [hlen4]; omega, lm4, fun e => absurd (n4 e) (by omega), fun _ => HVS.out.free (Nat.le_trans BM.out.size (lt4 htl0).1)⟩)
        have BZ := BM4
        have HC4 := hid (show tl ≤ c4 from by
          obtain ⟨a4', c4', e4', hl4, le4, -⟩ := row_of_owns O4.out
          cases e4'
          exact le4)
        have hc4 := HC4.out
        go_wp2_with fail
        have q1 := Below.cellAt BZ.out lvw c1
        have q2 := Below.cellAt BZ.out lvw c2
        have SB2 : ∀ W, Ext (fun q => q = d1 ∨ q = t1) w4 W → W.cell? ⟨v, 1, none⟩ = some (.map (some d1)) ∧ W.cell? ⟨v, 2, none⟩ = some (.map (some t1)) := fun W k => ⟨k.cell (fun h => h.elim (fun e => NE.out.1.1 e.symm) (fun e => NE.out.1.2 e.symm)) q1, k.cell (fun h => h.elim (fun e => NE.out.1.1 e.symm) (fun e => NE.out.1.2 e.symm)) q2⟩
        refine wp_region_held_drew (S := fun W => W.cell? ⟨v, 1, none⟩ = some (.map (some d1)) ∧ W.cell? ⟨v, 2, none⟩ = some (.map (some t1))) (by kernel_rfl) (SB2 _ (((Ext.refl (fun q => q = d1 ∨ q = t1) w4).drew))) (fun hHeld => ?_)
        refine wpAnyH_take (i := 0) (v := ?v93) (by simp only [List.getElem?_toArray, List.getElem?_cons_zero]; rfl) (by kernel_rfl) (by kernel_rfl) (by kernel_rfl) (by exact fun _ _ _ h => h) (Or.inl ⟨by rfl, ?h93⟩) (by assumption) ?r93
        case h93 => (intro w hSw; (try dsimp only at hSw); go_simp; try with_reducible rfl)
        try simp only [Act.put, List.setIfInBounds_toArray, List.set_cons_zero, List.set_cons_succ]
        refine wpAnyH_take (i := 1) (v := ?v94) (by simp only [List.getElem?_toArray, List.getElem?_cons_zero, List.getElem?_cons_succ]; rfl) (by kernel_rfl) (by kernel_rfl) (by kernel_rfl) (by exact fun _ _ _ h => h) (Or.inl ⟨by rfl, ?h94⟩) (by assumption) ?r94
        case h94 => (intro w hSw; (try dsimp only at hSw); go_simp; try with_reducible rfl)
        try simp only [Act.put, List.setIfInBounds_toArray, List.set_cons_zero, List.set_cons_succ]
        refine wpAnyH_take (i := 2) (v := ?v95) (by simp only [List.getElem?_toArray, List.getElem?_cons_zero, List.getElem?_cons_succ]; rfl) (by kernel_rfl) (by kernel_rfl) (by kernel_rfl) (by exact fun _ _ _ h => h) (Or.inl ⟨by rfl, ?h95⟩) (by assumption) ?r95
        case h95 => (intro w hSw; (try dsimp only at hSw); go_simp; try with_reducible rfl)
        try simp only [Act.put, List.setIfInBounds_toArray, List.set_cons_zero, List.set_cons_succ]
        refine wpAnyH_take (i := 3) (v := ?v96) (by simp only [List.getElem?_toArray, List.getElem?_cons_zero, List.getElem?_cons_succ]; rfl) (by kernel_rfl) (by kernel_rfl) (by kernel_rfl) (by exact fun _ _ _ h => h) (Or.inl ⟨by rfl, ?h96⟩) (by assumption) ?r96
        case h96 => (intro w hSw; (try dsimp only at hSw); go_simp; try with_reducible rfl)
        try simp only [Act.put, List.setIfInBounds_toArray, List.set_cons_zero, List.set_cons_succ]
        refine wpAnyH_take (i := 4) (v := ?v97) (by simp only [List.getElem?_toArray, List.getElem?_cons_zero, List.getElem?_cons_succ]; rfl) (by kernel_rfl) (by kernel_rfl) (by kernel_rfl) (by exact fun _ _ _ h => h) (Or.inl ⟨by rfl, ?h97⟩) (by assumption) ?r97
        case h97 => (intro w hSw; (try dsimp only at hSw); go_simp; try with_reducible rfl)
        try simp only [Act.put, List.setIfInBounds_toArray, List.set_cons_zero, List.set_cons_succ]
        refine wpAnyH_take (i := 5) (v := ?v98) (by simp only [List.getElem?_toArray, List.getElem?_cons_zero, List.getElem?_cons_succ]; rfl) (by kernel_rfl) (by kernel_rfl) (by kernel_rfl) (by exact fun _ _ _ h => h) (Or.inl ⟨by rfl, ?h98⟩) (by assumption) ?r98
        case h98 => (intro w hSw; (try dsimp only at hSw); go_simp; try with_reducible rfl)
        try simp only [Act.put, List.setIfInBounds_toArray, List.set_cons_zero, List.set_cons_succ]
        refine wpAnyH_take (i := 6) (v := ?v99) (by simp only [List.getElem?_toArray, List.getElem?_cons_zero, List.getElem?_cons_succ]; rfl) (by kernel_rfl) (by kernel_rfl) (by kernel_rfl) (by exact fun _ _ _ h => h) (Or.inl ⟨by rfl, ?h99⟩) (by assumption) ?r99
        case h99 => (intro w hSw; (try dsimp only at hSw); go_simp; try with_reducible rfl)
        try simp only [Act.put, List.setIfInBounds_toArray, List.set_cons_zero, List.set_cons_succ]
        refine wpAnyH_take (i := 7) (v := ?v100) (by simp only [List.getElem?_toArray, List.getElem?_cons_zero, List.getElem?_cons_succ]; rfl) (by kernel_rfl) (by kernel_rfl) (by kernel_rfl) (by exact fun _ _ _ h => h) (Or.inl ⟨by rfl, ?h100⟩) (by assumption) ?r100
        case h100 => (intro w hSw; (try dsimp only at hSw); go_simp; try with_reducible rfl)
        try simp only [Act.put, List.setIfInBounds_toArray, List.set_cons_zero, List.set_cons_succ]
        refine wpAnyH_take (i := 8) (v := ?v101) (by simp only [List.getElem?_toArray, List.getElem?_cons_zero, List.getElem?_cons_succ]; rfl) (by kernel_rfl) (by kernel_rfl) (by kernel_rfl) (by exact fun _ _ _ h => h) (Or.inl ⟨by rfl, ?h101⟩) (by assumption) ?r101
        case h101 => (intro w hSw; (try dsimp only at hSw); go_simp; try with_reducible rfl)
        try simp only [Act.put, List.setIfInBounds_toArray, List.set_cons_zero, List.set_cons_succ]
        refine wpAnyH_take (i := 9) (v := ?v102) (by simp only [List.getElem?_toArray, List.getElem?_cons_zero, List.getElem?_cons_succ]; rfl) (by kernel_rfl) (by kernel_rfl) (by kernel_rfl) (by exact fun _ _ _ h => h) (Or.inl ⟨by rfl, ?h102⟩) (by assumption) ?r102
        case h102 => (intro w hSw; (try dsimp only at hSw); go_simp; try with_reducible rfl)
        try simp only [Act.put, List.setIfInBounds_toArray, List.set_cons_zero, List.set_cons_succ]
        refine wpAnyH_take (i := 10) (v := ?v103) (by simp only [List.getElem?_toArray, List.getElem?_cons_zero, List.getElem?_cons_succ]; rfl) (by kernel_rfl) (by kernel_rfl) (by kernel_rfl) (by exact fun _ _ _ h => h) (Or.inl ⟨by rfl, ?h103⟩) (by assumption) ?r103
        case h103 => (intro w hSw; (try dsimp only at hSw); go_simp; try with_reducible rfl)
        try simp only [Act.put, List.setIfInBounds_toArray, List.set_cons_zero, List.set_cons_succ]
        refine wpAnyH_take (i := 11) (v := ?v104) (by simp only [List.getElem?_toArray, List.getElem?_cons_zero, List.getElem?_cons_succ]; rfl) (by kernel_rfl) (by kernel_rfl) (by kernel_rfl) (by exact fun _ _ _ h => h) (Or.inl ⟨by rfl, ?h104⟩) (by assumption) ?r104
        case h104 => (intro w hSw; (try dsimp only at hSw); go_simp; try with_reducible rfl)
        try simp only [Act.put, List.setIfInBounds_toArray, List.set_cons_zero, List.set_cons_succ]
        refine wpAnyH_take (i := 12) (v := ?v105) (by simp only [List.getElem?_toArray, List.getElem?_cons_zero, List.getElem?_cons_succ]; rfl) (by kernel_rfl) (by kernel_rfl) (by kernel_rfl) (by exact fun _ _ _ h => h) (Or.inl ⟨by rfl, ?h105⟩) (by assumption) ?r105
        case h105 => (intro w hSw; (try dsimp only at hSw); go_simp; try with_reducible rfl)
        try simp only [Act.put, List.setIfInBounds_toArray, List.set_cons_zero, List.set_cons_succ]
        refine wpAnyH_take (i := 14) (v := ?v106) (by simp only [List.getElem?_toArray, List.getElem?_cons_zero, List.getElem?_cons_succ]; rfl) (by kernel_rfl) (by kernel_rfl) (by kernel_rfl) (by exact fun _ _ _ h => h) (Or.inl ⟨by rfl, ?h106⟩) (by assumption) ?r106
        case h106 => (intro w hSw; (try dsimp only at hSw); go_simp; try with_reducible rfl)
        try simp only [Act.put, List.setIfInBounds_toArray, List.set_cons_zero, List.set_cons_succ]
        refine wpAnyH_ready (rs := [13]) (by kernel_rfl) (by simp) ?_
        refine (AllReadyH.cons (by simp only [List.getElem?_toArray, List.getElem?_cons_zero, List.getElem?_cons_succ]; rfl) (fun K hK => ?_) AllReadyH.nil)
        go_simp
        go_at_call 43
        refine (cloneB_any a len cap bs _ (Row.keep (HR.out.below BZ.out (Nat.le_refl _)) (w' := w4.drew) (fun _ => rfl)) HBL.out HN.out (by omega)).mono ?_
        rintro e wc107 ⟨vc107, rfl, oc107, Bc107⟩
        have XC107 : Ext (fun q => q = d1 ∨ q = t1) w4 wc107 := (((Ext.refl (fun q => q = d1 ∨ q = t1) w4).drew)).trans (Ext.of_below Bc107 (fun q => q = d1 ∨ q = t1)) (fun i _ h => h)
        refine hK.out _ _ (SB2 _ XC107) (fun hH108 => ?_)
        clear hK
        try simp only [Act.put, List.setIfInBounds_toArray, List.set_cons_zero, List.set_cons_succ]
        refine wpAnyH_ready (rs := [15]) (by kernel_rfl) (by simp) ?_
        refine (AllReadyH.cons (by simp only [List.getElem?_toArray, List.getElem?_cons_zero, List.getElem?_cons_succ]; rfl) (fun K hK => ?_) AllReadyH.nil)
        refine step_mapEntry_im rfl (by rfl) _ _ _ (by rfl) 27 Tryz.underlying65 d1 41 V (by rfl) (((HVM.out.below BZ.out (Nat.le_refl _)).ext (Ext.refl (fun _ => False) w4).drew (fun h => h)).below Bc107 (Nat.le_refl _)) (by unfold maxLen; omega) (.slice none 0 0) (zP _) id (by rfl) hid' ?_
        intro ue109 se109 wm109 IM109 GM109 EN109
        have XM109 : Ext (fun q => q = d1 ∨ q = t1) w4 wm109 := (XC107).trans (Ext.of_grown GM109) (fun i _ h => by have h : some d1 = some i := h; simp only [Option.some.injEq] at h; omega)
        refine hK.out _ _ (SB2 _ XM109) (fun hH110 => ?_)
        clear hK
        try simp only [Act.put, List.setIfInBounds_toArray, List.set_cons_zero, List.set_cons_succ]
        refine wpAnyH_take (i := 16) (v := ?v111) (by simp only [List.getElem?_toArray, List.getElem?_cons_zero, List.getElem?_cons_succ]; rfl) (by kernel_rfl) (by kernel_rfl) (by kernel_rfl) (by exact fun _ _ _ h => h) (Or.inl ⟨by rfl, ?h111⟩) (by assumption) ?r111
        case h111 => (intro w hSw; (try dsimp only at hSw); go_simp; try with_reducible rfl)
        try simp only [Act.put, List.setIfInBounds_toArray, List.set_cons_zero, List.set_cons_succ]
        refine wpAnyH_ready (rs := [17]) (by kernel_rfl) (by simp) ?_
        refine (AllReadyH.cons (by simp only [List.getElem?_toArray, List.getElem?_cons_zero, List.getElem?_cons_succ]; rfl) (fun K hK => ?_) AllReadyH.nil)
        refine step_entryStore_im rfl (by rfl) _ _ _ _ (by rfl) 27 Tryz.underlying65 d1 42 _ (by rfl) IM109 (by unfold maxLen; omega) id se109 (vc107) (by rfl) (by rfl) hid' EN109 ?_
        intro wm112 IM112 GM112
        have XM112 : Ext (fun q => q = d1 ∨ q = t1) w4 wm112 := (XM109).trans (Ext.of_grown GM112) (fun i _ h => by have h : some d1 = some i := h; simp only [Option.some.injEq] at h; omega)
        refine hK.out _ _ (SB2 _ XM112) (fun hH113 => ?_)
        clear hK
        try simp only [Act.put, List.setIfInBounds_toArray, List.set_cons_zero, List.set_cons_succ]
        refine wpAnyH_ready (rs := [18]) (by kernel_rfl) (by simp) ?_
        refine (AllReadyH.cons (by simp only [List.getElem?_toArray, List.getElem?_cons_zero, List.getElem?_cons_succ]; rfl) (fun K hK => ?_) AllReadyH.nil)
        refine step_mapEntry_im rfl (by rfl) _ _ _ (by rfl) 33 Tryz.underlying66 t1 41 U (by rfl) (((((HUM.out.below BZ.out (Nat.le_refl _)).ext (Ext.refl (fun _ => False) w4).drew (fun h => h)).below Bc107 (Nat.le_refl _)).ext (Ext.of_grown GM109) (by intro h; have h : some d1 = some t1 := h; simp only [Option.some.injEq] at h; exact N1.out h)).ext (Ext.of_grown GM112) (by intro h; have h : some d1 = some t1 := h; simp only [Option.some.injEq] at h; exact N1.out h)) (by unfold maxLen; omega) (.slice none 0 0) (zI' _) id (by rfl) hid' ?_
        intro ue114 se114 wm114 IM114 GM114 EN114
        have XM114 : Ext (fun q => q = d1 ∨ q = t1) w4 wm114 := (XM112).trans (Ext.of_grown GM114) (fun i _ h => by have h : some t1 = some i := h; simp only [Option.some.injEq] at h; omega)
        refine hK.out _ _ (SB2 _ XM114) (fun hH115 => ?_)
        clear hK
        try simp only [Act.put, List.setIfInBounds_toArray, List.set_cons_zero, List.set_cons_succ]
        refine wpAnyH_take (i := 19) (v := ?v116) (by simp only [List.getElem?_toArray, List.getElem?_cons_zero, List.getElem?_cons_succ]; rfl) (by kernel_rfl) (by kernel_rfl) (by kernel_rfl) (by exact fun _ _ _ h => h) (Or.inl ⟨by rfl, ?h116⟩) (by assumption) ?r116
        case h116 => (intro w hSw; (try dsimp only at hSw); go_simp; try with_reducible rfl)
        try simp only [Act.put, List.setIfInBounds_toArray, List.set_cons_zero, List.set_cons_succ]
        refine wpAnyH_ready (rs := [20]) (by kernel_rfl) (by simp) ?_
        refine (AllReadyH.cons (by simp only [List.getElem?_toArray, List.getElem?_cons_zero, List.getElem?_cons_succ]; rfl) (fun K hK => ?_) AllReadyH.nil)
        refine step_entryStore_im rfl (by rfl) _ _ _ _ (by rfl) 33 Tryz.underlying66 t1 42 _ (by rfl) IM114 (by unfold maxLen; omega) id se114 (.slice a4 tk c4) (by rfl) (by rfl) hid' EN114 ?_
        intro wm117 IM117 GM117
        have XM117 : Ext (fun q => q = d1 ∨ q = t1) w4 wm117 := (XM114).trans (Ext.of_grown GM117) (fun i _ h => by have h : some t1 = some i := h; simp only [Option.some.injEq] at h; omega)
        refine hK.out _ _ (SB2 _ XM117) (fun hH118 => ?_)
        clear hK
        try simp only [Act.put, List.setIfInBounds_toArray, List.set_cons_zero, List.set_cons_succ]
        refine wpAnyH_done (by kernel_rfl) ?_ _
        have XF := hid XM117
        have VF := hid (((IM112.ext (Ext.of_grown GM114) (by intro h; have h : some t1 = some d1 := h; simp only [Option.some.injEq] at h; exact N1.out h.symm)).ext (Ext.of_grown GM117) (by intro h; have h : some t1 = some d1 := h; simp only [Option.some.injEq] at h; exact N1.out h.symm)).congr (T' := fun k => if k = id then some vc107 else V k) (fun k => by by_cases e : k = id <;> simp [e]))
        have UF := hid (IM117.congr (T' := fun k => if k = id then some (.slice a4 tk c4) else U k) (fun k => by by_cases e : k = id <;> simp [e]))
        have hF0 : ∀ q, (q = d1 ∨ q = t1) → inD M q := fun q hq => hq.elim (fun e => by subst e; exact .inr (HV.out.cx _ HV.out.cs.1.1).1.1) (fun e => by subst e; exact .inr (HV.out.cx _ HV.out.cs.1.2).1.1)
        have HB := hid ((Hld.of_owns (D := inD M) oc107 (fun q h1 h2 => HVS.out.free (Nat.le_trans BZ.out.size h1))).step ((((show Ext (fun q => q = d1 ∨ q = t1) wc107 wm109 from (Ext.of_grown GM109).mono (fun i _ h => by have h : some d1 = some i := h; simp only [Option.some.injEq] at h; omega)).trans (show Ext (fun q => q = d1 ∨ q = t1) wm109 wm112 from (Ext.of_grown GM112).mono (fun i _ h => by have h : some d1 = some i := h; simp only [Option.some.injEq] at h; omega)) (fun i _ h => h)).trans (show Ext (fun q => q = d1 ∨ q = t1) wm112 wm114 from (Ext.of_grown GM114).mono (fun i _ h => by have h : some t1 = some i := h; simp only [Option.some.injEq] at h; omega)) (fun i _ h => h)).trans (show Ext (fun q => q = d1 ∨ q = t1) wm114 wm117 from (Ext.of_grown GM117).mono (fun i _ h => by have h : some t1 = some i := h; simp only [Option.some.injEq] at h; omega)) (fun i _ h => h)) hF0 (fun q hq => .inl hq))
        have HU := hid (HNT.out.step XF.out hF0 (fun q hq => .inl hq))
        clear IM109 IM112 IM114 IM117 GM109 GM112 GM114 GM117 EN109 EN114 hF0 oc107
        go_wp2_with fail
        go_ret
        have HP := VSys.putIn HVS.out HV.out BZ.out XF.out OK.out HXM.out (by omega) HB.out HU.out VF.out UF.out
        refine ⟨by rw [hc.out]; rfl, ?_, HP.2⟩
        have ePB : now.putted H L.lost id bs = now.put id (bs, now.nextT id len) := by
          unfold Rcs.putted
          rw [if_pos hc.out]
          unfold Rcs.putB
          rw [HBL.out]
        rw [ePB]
        exact HP.1

end Go.Proofs.YtleoelhhndeheaaGreat
