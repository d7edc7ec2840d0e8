import Derived.Test.YtleoelhhndeheaaGreatLedK
/- package ledger: Settle, Balance -/
open Go Go.RowKit
namespace Go.Proofs.YtleoelhhndeheaaGreat

theorem Went.of {w : World} {M M' : Dom} {B B' : Nat → Prop} {d l mb : Nat} {r : Int × LS × DS} {w' : World} (h : Sys w' M' B' d l mb r.2.2 r.2.1) (k : LStep M B w M' B' w') : Went w M B d l r w' := ⟨M', B', mb, h, k⟩
/-- behind a drum's step -/
theorem Went.after {w w1 w' : World} {M M1 : Dom} {B B1 : Nat → Prop} {d l : Nat} {r : Int × LS × DS} (k : LStep M B w M1 B1 w1) (h : Went w1 M1 B1 d l r w') : Went w M B d l r w' := by
  obtain ⟨M', B', mb', h1, h2⟩ := h
  exact ⟨M', B', mb', h1, k.trans h2⟩

set_option maxHeartbeats 4000000 in
theorem lsettle_any {w : World} {M : Dom} {B : Nat → Prop} {d l mb : Nat} {s : DS} {L : LS} (h : Sys w M B d l mb s L) :
    Calls Tryz.prog 58 #[.pointer (some ⟨l, 0, none⟩)] w fun e w' => e = .returned (.int .i64 (L.settle s).1) ∧ Went w M B d l (L.settle s) w' := by
  obtain ⟨c0, -, -, -, -, -, c6⟩ := h.led.cells
  have HS := hid h
  have SE := settle_any h.drum
  obtain ⟨lo, hlo⟩ : ∃ lo, L.lost = lo := ⟨_, rfl⟩
  rw [hlo] at c6
  have HLO := hid hlo
  clear h hlo
  cases lo with
  | true =>
    have HF := hid (show L.settle s = (4, L, s) by unfold LS.settle; rw [HLO.out]; rfl)
    go_enter Tryz.func58, Tryz.ntmps58
    go_wp2_with fail
    go_ret
    exact ⟨by rw [HF.out]; rfl, Went.of (by rw [HF.out]; exact HS.out) (LStep.refl _ _ _)⟩
  | false =>
    have HF := hid (show L.settle s = (s.code, L.ends s.code, s.settle) by unfold LS.settle; rw [HLO.out]; rfl)
    obtain ⟨cd, hcd⟩ : ∃ cd, s.code = cd := ⟨_, rfl⟩
    rw [hcd] at SE
    have HCD := hid hcd
    clear hcd
    go_enter Tryz.func58, Tryz.ntmps58
    go_wp2_with fail
    refine SE.mono ?_
    rintro e w5 ⟨rfl, M5, D5, S5⟩
    have Y5 := hid (HS.out.step D5 S5)
    have Z5 := hid (show LStep M B w M5 B w5 from LStep.of_step S5)
    have EN := ends_any Y5.out cd
    clear SE D5 S5
    go_wp2_with fail
    refine EN.mono ?_
    rintro e w6 ⟨rfl, Y6, Z6⟩
    have Y6H := hid Y6
    have Z6H := hid Z6
    clear EN Y6 Z6
    go_wp2_with fail
    go_ret
    exact ⟨by rw [HF.out, HCD.out]; rfl, Went.of (by rw [HF.out, HCD.out]; exact Y6H.out) (Z5.out.trans Z6H.out)⟩

theorem LS.settle_ok {L : LS} {s : DS} (ok : L.Ok s) : (L.settle s).2.1.Ok (L.settle s).2.2 ∧ (L.settle s).2.2.n = s.n ∧ (L.settle s).2.2.up.length ≤ s.up.length ∧ (L.settle s).2.1.round = L.round ∧ (L.settle s).2.1.leaves = L.leaves := by
  unfold LS.settle
  split
  · exact ⟨ok, rfl, Nat.le_refl _, rfl, rfl⟩
  · have hn := DS.settle_n' s
    exact ⟨⟨by show s.settle.n ≤ _; rw [hn]; exact ok.n1, ok.r, by show _ ∧ L.leaves + 4 ≤ s.settle.n; rw [hn]; exact ok.l, ok.u, ok.k, by show ∀ x, _ → _ ∧ x < (s.settle.n : Int) - _; rw [hn]; exact ok.t, ok.z⟩, hn, DS.settle_up s, rfl, rfl⟩

set_option maxHeartbeats 4000000 in
theorem balance_any {w : World} {M : Dom} {B : Nat → Prop} {d l mb : Nat} {s : DS} {L : LS} (h : Sys w M B d l mb s L) (ok : L.Ok s) (hu : s.up.length < 400000000) :
    Calls Tryz.prog 50 #[.pointer (some ⟨l, 0, none⟩)] w fun e w' => e = .returned (.int .i64 (L.balance s).1) ∧ Went w M B d l (L.balance s) w' := by
  have SE := lsettle_any h
  obtain ⟨ok2, hn2, hu2, -, -⟩ := LS.settle_ok ok
  have OK2 := hid ok2
  have HB := hid (show L.balance s = if (L.settle s).1 = 0 then (((L.settle s).2.1.goHome (L.settle s).2.2).1, ((L.settle s).2.1.goHome (L.settle s).2.2).2.1.ends ((L.settle s).2.1.goHome (L.settle s).2.2).1, ((L.settle s).2.1.goHome (L.settle s).2.2).2.2) else L.settle s from rfl)
  obtain ⟨cd, hcd⟩ : ∃ cd, (L.settle s).1 = cd := ⟨_, rfl⟩
  rw [hcd] at SE HB
  have HCD := hid hcd
  clear h ok ok2 hn2 hcd
  by_cases hc : cd = 0
  · subst hc
    have HB2 := hid (HB.out.trans (if_pos rfl))
    go_enter Tryz.func50, Tryz.ntmps50
    go_wp2_with fail
    refine SE.mono ?_
    rintro e w5 ⟨rfl, M5, B5, mb5, Y5, Z5⟩
    have GH := goHome_any Y5 OK2.out (by omega)
    obtain ⟨cg, hcg⟩ : ∃ cg, ((L.settle s).2.1.goHome (L.settle s).2.2).1 = cg := ⟨_, rfl⟩
    rw [hcg] at GH
    have HCG := hid hcg
    have Z5H := hid Z5
    clear SE Y5 Z5 hcg
    go_wp2_with fail
    refine GH.mono ?_
    rintro e w6 ⟨rfl, M6, B6, mb6, Y6, Z6⟩
    have EN := ends_any Y6 cg
    have Z6H := hid (Z5H.out.trans Z6)
    clear GH Y6 Z6
    go_wp2_with fail
    refine EN.mono ?_
    rintro e w7 ⟨rfl, Y7, Z7⟩
    have Y7H := hid Y7
    have Z7H := hid (Z6H.out.trans Z7)
    have HB3 := hid (show L.balance s = (cg, ((L.settle s).2.1.goHome (L.settle s).2.2).2.1.ends cg, ((L.settle s).2.1.goHome (L.settle s).2.2).2.2) by rw [HB2.out, HCG.out])
    clear EN Y7 Z7
    go_wp2_with fail
    go_ret
    exact ⟨by rw [HB3.out]; rfl, Went.of (by rw [HB3.out]; exact Y7H.out) Z7H.out⟩
  · have hc1 : (cd != 0) = true := by simpa using hc
    have HB2 := hid (HB.out.trans (if_neg hc))
    go_enter Tryz.func50, Tryz.ntmps50
    go_wp2_with fail
    refine SE.mono ?_
    rintro e w5 ⟨rfl, W5⟩
    have W5H := hid W5
    clear SE W5
    go_wp2_with fail
    go_ret
    exact ⟨by rw [HB2.out, HCD.out]; rfl, by rw [HB2.out]; exact W5H.out⟩

end Go.Proofs.YtleoelhhndeheaaGreat

/- package ledger: lay -/
open Go Go.RowKit
namespace Go.Proofs.YtleoelhhndeheaaGreat

theorem LvRow.step {w w' : World} {N N' : Nat → Prop} {a : Option Addr} {n : Nat} {ls : List (List Int)} (h : LvRow w N a n ls) {F : Nat → Prop} (k : Ext F w w') (hF : ∀ q, F q → q < w.heap.size → N q) (hN : ∀ q, N' q → N q ∨ w.heap.size ≤ q) : LvRow w' N' a n ls := by
  refine ⟨h.len, h.nn, fun h0 hf => ?_, fun i zs hi => ?_⟩
  · have hl := h.len
    have hi : ls[0]? = some (ls[0]'(by omega)) := List.getElem?_eq_getElem _
    obtain ⟨b, c, h1, -⟩ := h.cell 0 _ hi
    have := lt_of_cell h1
    exact (hN _ hf).elim (h.hd h0) (fun e => by omega)
  · obtain ⟨b, c, h1, h2, h3, h4, h5, h6⟩ := h.cell i zs hi
    have hi2 : i < ls.length := (List.getElem?_eq_some_iff.1 hi).1
    have h0 := h.hd (by have := h.len; omega)
    have hb : b.block < w.heap.size := h2.lt (by rw [B8_length]; omega)
    exact ⟨b, c, k.cell (fun hf => h0 (hF _ hf (lt_of_cell h1))) h1, h2.ext k (fun hl hf => h6 (hF _ hf hb)), h3, h4, h5, fun hf => (hN _ hf).elim h6 (fun e => by omega)⟩
theorem EntsAt.step {w w' : World} {N N' : Nat → Prop} {a : Option Addr} {n : Nat} {l : List Ent} (h : EntsAt w N a n l) {F : Nat → Prop} (k : Ext F w w') (hF : ∀ q, F q → q < w.heap.size → N q) (hN : ∀ q, N' q → N q ∨ w.heap.size ≤ q) : EntsAt w' N' a n l := by
  have hk := h.keep k hF
  refine ⟨h.len, h.nn, hk.c0, fun i x hi => ?_, h.bd, fun h0 hf => ?_⟩
  · obtain ⟨b, c, h1, h2, h3, h4, h5⟩ := h.c1 i x hi
    obtain ⟨b', c', k1, k2, -, -, -⟩ := hk.c1 i x hi
    have hi2 : i < l.length := (List.getElem?_eq_some_iff.1 hi).1
    have hne := h.hd (by have := h.len; omega)
    have k1' := k.cell (fun hf => hne (hF _ hf (lt_of_cell h1))) h1
    refine ⟨b, c, k1', h2.ext k (fun hl hf => ?_), h3, h4, fun h0 hf => ?_⟩
    · rw [B8_length] at hl
      exact h5 hl (hF _ hf (h2.lt (by rw [B8_length]; exact hl)))
    · have hb := h2.lt (by rw [B8_length]; exact h0)
      exact (hN _ hf).elim (h5 h0) (fun e => by omega)
  · have hl := h.len
    have hi : l[0]? = some (l[0]'(by omega)) := List.getElem?_eq_getElem _
    have := lt_of_cell (h.c0 0 _ hi)
    exact (hN _ hf).elim (h.hd h0) (fun e => by omega)
/-- what no call of the ledger's writes, nor lies among what others may write -/
abbrev inD (M : Dom) : Nat → Prop := fun q => M q ∨ M.X q
theorem LStep.inD {M M' : Dom} {B B' : Nat → Prop} {w w' : World} (k : LStep M B w M' B' w') : ∀ q, inD M' q → inD M q ∨ w.heap.size ≤ q := fun q hq =>
  hq.elim (fun h => (k.new q h).imp .inl id) (fun h => (k.newX q h).imp .inr id)
theorem LvRow.lstep {w w' : World} {M M' : Dom} {B B' : Nat → Prop} {a : Option Addr} {n : Nat} {ls : List (List Int)} (h : LvRow w (inD M) a n ls) (k : LStep M B w M' B' w') (hB : ∀ q, B q → M.X q) : LvRow w' (inD M') a n ls :=
  h.step k.ext (fun q hq _ => hq.elim .inl (fun e => .inr (hB q e))) k.inD
theorem EntsAt.lstep {w w' : World} {M M' : Dom} {B B' : Nat → Prop} {a : Option Addr} {n : Nat} {l : List Ent} (h : EntsAt w (inD M) a n l) (k : LStep M B w M' B' w') (hB : ∀ q, B q → M.X q) : EntsAt w' (inD M') a n l :=
  h.step k.ext (fun q hq _ => hq.elim .inl (fun e => .inr (hB q e))) k.inD

theorem idx_take {b : Int} {pl : List (List Int)} {k : Nat} {z : List Int} (h : pl[k]? = some z) : idxLays b (pl.take (k + 1)) = idxLays b (pl.take k) ++ [(b + k, z)] := by
  have hk : k < pl.length := (List.getElem?_eq_some_iff.1 h).1
  rw [List.take_add_one, h]
  show idxLays b (pl.take k ++ [z]) = _
  rw [idxLays_snoc, List.length_take, Nat.min_eq_left (by omega)]
theorem idx_stop {s : DS} {b : Int} {pl : List (List Int)} {k : Nat} (h : (s.lays (idxLays b (pl.take k))).1 ≠ 0) : s.lays (idxLays b pl) = s.lays (idxLays b (pl.take k)) ∧ s.laysN (idxLays b pl) = s.laysN (idxLays b (pl.take k)) := by
  have e : idxLays b pl = idxLays b (pl.take k) ++ idxLays (b + (pl.take k).length) (pl.drop k) := by
    conv => lhs; rw [← List.take_append_drop k pl]
    exact idxLays_append _ _ _
  rw [e]
  exact ⟨DS.lays_stop _ _ _ h, DS.laysN_stop _ _ _ h⟩
theorem postL_length {l : List Ent} {n : Nat} (hl : l.length = n) (h0 : 0 < n) (r no : Int) : (postL r no l).length = (2 + n * 98 + 63) / 64 := by
  unfold postL postN
  rw [List.length_map, List.length_range, hl, postN_eq h0]
  rfl

set_option maxRecDepth 100000 in
set_option maxHeartbeats 8000000 in
theorem layL_any {w : World} {M : Dom} {B : Nat → Prop} {d l mb : Nat} {s : DS} {L : LS} (h : Sys w M B d l mb s L) (ok : L.Ok s) (hu : s.up.length < 400000000) (ea : Option Addr) (n cap : Nat) (el : List Ent) (hE : EntsAt w (inD M) ea n el) (hn : n ≤ 60000) (hm : mayE el (L.H s) = true) :
    Calls Tryz.prog 72 #[.pointer (some ⟨l, 0, none⟩), .slice ea n cap] w fun e w' => e = .returned (.int .i64 (L.lay s el).1) ∧ Went w M B d l (L.lay s el) w' := by
  have h0 : 0 < n := by
    unfold mayE at hm
    rw [Bool.and_eq_true, decide_eq_true_eq, hE.len] at hm
    exact hm.2
  have hmem := mayE_mem hm
  have okr := ok.r
  have okl := ok.l
  have okn := ok.n1
  have oku := ok.u
  have okk := ok.k
  have hHle : (L.H s : Int) ≤ 4096 := by unfold LS.H; omega
  have HS := hid h
  have EH := hid hE
  have hix := fun k (hk : k < n) => hE.idx (cap := cap) hk
  have HEL := hid hE.len
  have hBX := hid (show ∀ q, B q → M.X q from fun q hq => (h.led.bx q hq).1)
  have PO := fun (W : World) (Bw : Below w.heap.size w W) => posting_any L.round (L.last + 1) ea n cap el (inD M) W (hE.below Bw (Nat.le_refl _)) (fun x hx => ⟨⟨(hmem x hx).1, by have := (hmem x hx).2.1; omega⟩, (hmem x hx).2.2⟩) h0 (by omega) (by omega) (by omega)
  obtain ⟨pl, hpl⟩ : ∃ pl, postL L.round (L.last + 1) el = pl := ⟨_, rfl⟩
  obtain ⟨np, hnp⟩ : ∃ np, pl.length = np := ⟨_, rfl⟩
  have hnpb : np ≤ 100000 := by rw [← hnp, ← hpl, postL_length hE.len h0]; omega
  rw [hpl] at PO
  have HPL := hid hpl
  have HNP := hid hnp
  have HMEM := hid hmem
  have HLL := hid (show L.leafLays el = idxLays (2 + L.used) pl by unfold LS.leafLays; rw [hpl])
  obtain ⟨c0, c1, -, c3, c4, c5, -⟩ := h.led.cells
  have lw := lt_of_cell c0
  have SB : ∀ W, Below w.heap.size w W → W.cell? ⟨l, 1, none⟩ = some (.int .i64 L.round) ∧ W.cell? ⟨l, 4, none⟩ = some (.int .i64 L.last) := fun W h => ⟨Below.cellAt h lw c1, Below.cellAt h lw c4⟩
  have sw : IntKind.i64.wrap (L.last + 1) = L.last + 1 := IntWalk.i64_in _ (by omega)
  have SW := hid sw
  clear h hE hm hmem hpl hnp ok
  go_enter Tryz.func72, Tryz.ntmps72
  go_wp2_with fail
  refine wp_region_held_drew (S := fun w' => w'.cell? ⟨l, 1, none⟩ = some (.int .i64 L.round) ∧ w'.cell? ⟨l, 4, none⟩ = some (.int .i64 L.last)) (by kernel_rfl) (SB _ ((Below.refl w.heap.size w).drew)) (fun hHeld => ?_)
  refine wpAnyH_take (i := 0) (v := ?v1) (by simp only [List.getElem?_toArray, List.getElem?_cons_zero]; rfl) (by kernel_rfl) (by kernel_rfl) (by kernel_rfl) (by exact fun _ _ _ h => h) (Or.inl ⟨by rfl, ?h1⟩) (by assumption) ?r1
  case h1 => (intro w hSw; (try dsimp only at hSw); go_simp; try with_reducible rfl)
  try simp only [Act.put, List.setIfInBounds_toArray, List.set_cons_zero, List.set_cons_succ]
  refine wpAnyH_take (i := 1) (v := ?v2) (by simp only [List.getElem?_toArray, List.getElem?_cons_zero, List.getElem?_cons_succ]; rfl) (by kernel_rfl) (by kernel_rfl) (by kernel_rfl) (by exact fun _ _ _ h => h) (Or.inl ⟨by rfl, ?h2⟩) (by assumption) ?r2
  case h2 => (intro w hSw; (try dsimp only at hSw); go_simp; try with_reducible rfl)
  try simp only [Act.put, List.setIfInBounds_toArray, List.set_cons_zero, List.set_cons_succ]
  refine wpAnyH_take (i := 2) (v := ?v3) (by simp only [List.getElem?_toArray, List.getElem?_cons_zero, List.getElem?_cons_succ]; rfl) (by kernel_rfl) (by kernel_rfl) (by kernel_rfl) (by exact fun _ _ _ h => h) (Or.inl ⟨by rfl, ?h3⟩) (by assumption) ?r3
  case h3 => (intro w hSw; (try dsimp only at hSw); go_simp; try with_reducible rfl)
  try simp only [Act.put, List.setIfInBounds_toArray, List.set_cons_zero, List.set_cons_succ]
  refine wpAnyH_take (i := 3) (v := ?v4) (by simp only [List.getElem?_toArray, List.getElem?_cons_zero, List.getElem?_cons_succ]; rfl) (by kernel_rfl) (by kernel_rfl) (by kernel_rfl) (by exact fun _ _ _ h => h) (Or.inl ⟨by rfl, ?h4⟩) (by assumption) ?r4
  case h4 => (intro w hSw; (try dsimp only at hSw); go_simp; try with_reducible rfl)
  try simp only [Act.put, List.setIfInBounds_toArray, List.set_cons_zero, List.set_cons_succ]
  refine wpAnyH_take (i := 4) (v := ?v5) (by simp only [List.getElem?_toArray, List.getElem?_cons_zero, List.getElem?_cons_succ]; rfl) (by kernel_rfl) (by kernel_rfl) (by kernel_rfl) (by exact fun _ _ _ h => h) (Or.inl ⟨by rfl, ?h5⟩) (by assumption) ?r5
  case h5 => (intro w hSw; (try dsimp only at hSw); go_simp; try with_reducible rfl)
  try simp only [Act.put, List.setIfInBounds_toArray, List.set_cons_zero, List.set_cons_succ]
  refine wpAnyH_take (i := 5) (v := ?v6) (by simp only [List.getElem?_toArray, List.getElem?_cons_zero, List.getElem?_cons_succ]; rfl) (by kernel_rfl) (by kernel_rfl) (by kernel_rfl) (by exact fun _ _ _ h => h) (Or.inl ⟨by rfl, ?h6⟩) (by assumption) ?r6
  case h6 => (intro w hSw; (try dsimp only at hSw); go_simp; try with_reducible rfl)
  try simp only [Act.put, List.setIfInBounds_toArray, List.set_cons_zero, List.set_cons_succ]
  refine wpAnyH_take (i := 6) (v := ?v7) (by simp only [List.getElem?_toArray, List.getElem?_cons_zero, List.getElem?_cons_succ]; rfl) (by kernel_rfl) (by kernel_rfl) (by kernel_rfl) (by exact fun _ _ _ h => h) (Or.inl ⟨by rfl, ?h7⟩) (by assumption) ?r7
  case h7 => (intro w hSw; (try dsimp only at hSw); go_simp; try with_reducible rfl)
  try simp only [Act.put, List.setIfInBounds_toArray, List.set_cons_zero, List.set_cons_succ]
  refine wpAnyH_take (i := 7) (v := ?v8) (by simp only [List.getElem?_toArray, List.getElem?_cons_zero, List.getElem?_cons_succ]; rfl) (by kernel_rfl) (by kernel_rfl) (by kernel_rfl) (by exact fun _ _ _ h => h) (Or.inl ⟨by rfl, ?h8⟩) (by assumption) ?r8
  case h8 => (intro w hSw; (try dsimp only at hSw); go_simp; try with_reducible rfl)
  try simp only [Act.put, List.setIfInBounds_toArray, List.set_cons_zero, List.set_cons_succ]
  refine wpAnyH_take (i := 8) (v := ?v9) (by simp only [List.getElem?_toArray, List.getElem?_cons_zero, List.getElem?_cons_succ]; rfl) (by kernel_rfl) (by kernel_rfl) (by kernel_rfl) (by exact fun _ _ _ h => h) (Or.inl ⟨by rfl, ?h9⟩) (by assumption) ?r9
  case h9 => (intro w hSw; (try dsimp only at hSw); go_simp; try with_reducible rfl)
  try simp only [Act.put, List.setIfInBounds_toArray, List.set_cons_zero, List.set_cons_succ]
  refine wpAnyH_take (i := 9) (v := ?v10) (by simp only [List.getElem?_toArray, List.getElem?_cons_zero, List.getElem?_cons_succ]; rfl) (by kernel_rfl) (by kernel_rfl) (by kernel_rfl) (by exact fun _ _ _ h => h) (Or.inl ⟨by rfl, ?h10⟩) (by assumption) ?r10
  case h10 => (intro w hSw; (try dsimp only at hSw); go_simp; try with_reducible rfl)
  try simp only [Act.put, List.setIfInBounds_toArray, List.set_cons_zero, List.set_cons_succ]
  refine wpAnyH_take (i := 10) (v := ?v11) (by simp only [List.getElem?_toArray, List.getElem?_cons_zero, List.getElem?_cons_succ]; rfl) (by kernel_rfl) (by kernel_rfl) (by kernel_rfl) (by exact fun _ _ _ h => h) (Or.inl ⟨by rfl, ?h11⟩) (by assumption) ?r11
  case h11 => (intro w hSw; (try dsimp only at hSw); go_simp; try with_reducible rfl)
  try simp only [Act.put, List.setIfInBounds_toArray, List.set_cons_zero, List.set_cons_succ]
  refine wpAnyH_take (i := 13) (v := ?v12) (by simp only [List.getElem?_toArray, List.getElem?_cons_zero, List.getElem?_cons_succ]; rfl) (by kernel_rfl) (by kernel_rfl) (by kernel_rfl) (by exact fun _ _ _ h => h) (Or.inl ⟨by rfl, ?h12⟩) (by assumption) ?r12
  case h12 => (intro w hSw; (try dsimp only at hSw); go_simp; try with_reducible rfl)
  try simp only [Act.put, List.setIfInBounds_toArray, List.set_cons_zero, List.set_cons_succ]
  refine wpAnyH_ready (rs := [11]) (by kernel_rfl) (by simp) ?_
  refine (AllReadyH.cons (by simp only [List.getElem?_toArray, List.getElem?_cons_zero, List.getElem?_cons_succ]; rfl) (fun K hK => ?_) AllReadyH.nil)
  go_simp
  go_at_call 98
  refine (PO _ ((Below.refl w.heap.size w).drew)).mono ?_
  rintro e wq13 ⟨v13, rfl, lv13, C13⟩
  have BB13 := ((Below.refl w.heap.size w).drew).trans (C13.mono (Below.size ((Below.refl w.heap.size w).drew)))
  refine hK.out _ _ (SB _ BB13) (fun hH14 => ?_)
  clear hK
  try simp only [Act.put, List.setIfInBounds_toArray, List.set_cons_zero, List.set_cons_succ]
  refine wpAnyH_ready (rs := [12]) (by kernel_rfl) (by simp) ?_
  refine (AllReadyH.cons (by simp only [List.getElem?_toArray, List.getElem?_cons_zero, List.getElem?_cons_succ]; rfl) (fun K hK => ?_) AllReadyH.nil)
  obtain ⟨pa, pc, hpv, LR, -, hpc, -, hpa⟩ := (lv13).out (N := inD M) (fun q hq _ => hq.elim (fun e => (HS.out.below ((Below.refl _ _).drew)).drum.ml q e) (fun e => (HS.out.below ((Below.refl _ _).drew)).drum.xl q e))
  rw [HNP.out] at hpv LR hpc hpa
  subst hpv
  go_simp
  refine hK.out _ _ (SB _ BB13) (fun hH15 => ?_)
  clear hK
  try simp only [Act.put, List.setIfInBounds_toArray, List.set_cons_zero, List.set_cons_succ]
  refine wpAnyH_done (by kernel_rfl) ?_ _
  have SY := hid (HS.out.below (BB13))
  have LS0 := hid (show LStep M B w M B wq13 from LStep.of_below (BB13))
  have LR0 := hid LR
  have E0 := hid (EH.out.below (BB13) (Nat.le_refl _))
  clear sw PO LR
  go_wp2_with fail
  go_loopw [23] (fun i wr => ∃ (k : Nat) (M1 : Dom), i = .int .i64 k ∧ k ≤ np ∧ Hid ((s.lays (idxLays (2 + L.used) (pl.take k))).1 = 0) ∧ Hid (Sys wr M1 B d l mb (s.lays (idxLays (2 + L.used) (pl.take k))).2 { L with used := L.used + k }) ∧ Hid (LStep M B w M1 B wr) ∧ Hid (LvRow wr (inD M1) pa np pl) ∧ Hid (EntsAt wr (inD M1) ea n el)) (fun i _ => np - (Go.RowKit.intOf i).toNat)
  case atStart => exact ⟨0, M, rfl, Nat.zero_le _, hid rfl, hid (by show Sys _ M B d l mb s { L with used := L.used + ((0 : Nat) : Int) }; rw [show L.used + ((0 : Nat) : Int) = L.used by simp]; exact SY.out), LS0, LR0, E0⟩
  case round =>
    obtain ⟨k, M1, rfl, hk, HC, SK, LK, LR, EK⟩ := hrel
    have hBX1 : ∀ q, B q → M1.X q := fun q hq => (SK.out.led.bx q hq).1
    by_cases hlt : k < np
    · have hixk := LR.out.idx (cap := pc) hlt
      obtain ⟨z, hx⟩ : ∃ x, pl[k]? = some x := ⟨_, List.getElem?_eq_getElem (by rw [HNP.out]; exact hlt)⟩
      obtain ⟨bz, cz, ez, rz, hz96, hzb, hcz, hzN⟩ := LR.out.cell k _ hx
      obtain ⟨d0, -, -, d3, -, -, -⟩ := SK.out.led.cells
      simp only at d3
      have hup : (s.lays (idxLays (2 + L.used) (pl.take k))).2.up.length < 1000000000 := by
        have := (DS.lays_n s (idxLays (2 + L.used) (pl.take k))).2
        rw [idxLays_length, List.length_take] at this
        omega
      have LA := fun (W : World) (Bw : Below wr.heap.size wr W) => lay_any (SK.out.below Bw).drum (2 + (L.used + (k : Int))) (some bz) 96 cz z (rz.below Bw (Nat.le_refl _)) hz96 hzb (fun h => by cases h) (fun _ hm => hzN (.inl hm)) hup
      obtain ⟨cd, hcd⟩ : ∃ cd, (s.lays (idxLays (2 + L.used) (pl.take k))).2.layCode (2 + (L.used + (k : Int))) z = cd := ⟨_, rfl⟩
      rw [hcd] at LA
      have HSN := hid (show s.lays (idxLays (2 + L.used) (pl.take (k + 1))) = (cd, (s.lays (idxLays (2 + L.used) (pl.take k))).2.lay (2 + (L.used + (k : Int))) z) by
        rw [idx_take hx, DS.lays_snoc _ _ _ HC.out]
        show ((s.lays (idxLays (2 + L.used) (pl.take k))).2.layCode (2 + L.used + (k : Int)) z, (s.lays (idxLays (2 + L.used) (pl.take k))).2.lay (2 + L.used + (k : Int)) z) = _
        rw [Int.add_assoc, hcd])
      have HSNN := hid (show s.laysN (idxLays (2 + L.used) (pl.take (k + 1))) = k + (if cd = 0 then 1 else 0) by
        rw [idx_take hx, DS.laysN_snoc _ _ _ HC.out, idxLays_length, List.length_take, Nat.min_eq_left (by rw [HNP.out]; omega)]
        show k + (if (s.lays (idxLays (2 + L.used) (pl.take k))).2.layCode (2 + L.used + (k : Int)) z = 0 then 1 else 0) = _
        rw [Int.add_assoc, hcd])
      have lwr := lt_of_cell d0
      have hM1l : ¬ M1 l := (SK.out.led.bx _ SK.out.led.bl).2
      have SC : ∀ W, Below wr.heap.size wr W → W.cell? ⟨l, 0, none⟩ = some (.pointer (some ⟨d, 0, none⟩)) ∧ W.cell? ⟨l, 3, none⟩ = some (.int .i64 (L.used + (k : Int))) := fun W h => ⟨Below.cellAt h lwr d0, Below.cellAt h lwr d3⟩
      have sw2 : IntKind.i64.wrap (2 + (L.used + (k : Int))) = 2 + (L.used + (k : Int)) := IntWalk.i64_in _ (by omega)
      have hBX2 := hid hBX1
      clear hx hz96 hzb hzN rz hcd hBX1
      go_wp2_with fail
      refine wp_region_held_drew (S := fun w' => w'.cell? ⟨l, 0, none⟩ = some (.pointer (some ⟨d, 0, none⟩)) ∧ w'.cell? ⟨l, 3, none⟩ = some (.int .i64 (L.used + (k : Int)))) (by kernel_rfl) (SC _ ((Below.refl wr.heap.size wr).drew)) (fun hHeld => ?_)
      refine wpAnyH_take (i := 0) (v := ?v16) (by simp only [List.getElem?_toArray, List.getElem?_cons_zero]; rfl) (by kernel_rfl) (by kernel_rfl) (by kernel_rfl) (by exact fun _ _ _ h => h) (Or.inl ⟨by rfl, ?h16⟩) (by assumption) ?r16
      case h16 => (intro w hSw; (try dsimp only at hSw); go_simp; try with_reducible rfl)
      try simp only [Act.put, List.setIfInBounds_toArray, List.set_cons_zero, List.set_cons_succ]
      refine wpAnyH_take (i := 1) (v := ?v17) (by simp only [List.getElem?_toArray, List.getElem?_cons_zero, List.getElem?_cons_succ]; rfl) (by kernel_rfl) (by kernel_rfl) (by kernel_rfl) (by exact fun _ _ _ h => h) (Or.inl ⟨by rfl, ?h17⟩) (by assumption) ?r17
      case h17 => (intro w hSw; (try dsimp only at hSw); go_simp; try with_reducible rfl)
      try simp only [Act.put, List.setIfInBounds_toArray, List.set_cons_zero, List.set_cons_succ]
      refine wpAnyH_take (i := 2) (v := ?v18) (by simp only [List.getElem?_toArray, List.getElem?_cons_zero, List.getElem?_cons_succ]; rfl) (by kernel_rfl) (by kernel_rfl) (by kernel_rfl) (by exact fun _ _ _ h => h) (Or.inl ⟨by rfl, ?h18⟩) (by assumption) ?r18
      case h18 => (intro w hSw; (try dsimp only at hSw); go_simp; try with_reducible rfl)
      try simp only [Act.put, List.setIfInBounds_toArray, List.set_cons_zero, List.set_cons_succ]
      refine wpAnyH_take (i := 3) (v := ?v19) (by simp only [List.getElem?_toArray, List.getElem?_cons_zero, List.getElem?_cons_succ]; rfl) (by kernel_rfl) (by kernel_rfl) (by kernel_rfl) (by exact fun _ _ _ h => h) (Or.inl ⟨by rfl, ?h19⟩) (by assumption) ?r19
      case h19 => (intro w hSw; (try dsimp only at hSw); go_simp; try with_reducible rfl)
      try simp only [Act.put, List.setIfInBounds_toArray, List.set_cons_zero, List.set_cons_succ]
      refine wpAnyH_take (i := 4) (v := ?v20) (by simp only [List.getElem?_toArray, List.getElem?_cons_zero, List.getElem?_cons_succ]; rfl) (by kernel_rfl) (by kernel_rfl) (by kernel_rfl) (by exact fun _ _ _ h => h) (Or.inl ⟨by rfl, ?h20⟩) (by assumption) ?r20
      case h20 => (intro w hSw; (try dsimp only at hSw); go_simp; try with_reducible rfl)
      try simp only [Act.put, List.setIfInBounds_toArray, List.set_cons_zero, List.set_cons_succ]
      refine wpAnyH_take (i := 5) (v := ?v21) (by simp only [List.getElem?_toArray, List.getElem?_cons_zero, List.getElem?_cons_succ]; rfl) (by kernel_rfl) (by kernel_rfl) (by kernel_rfl) (by exact fun _ _ _ h => h) (Or.inl ⟨by rfl, ?h21⟩) (by assumption) ?r21
      case h21 => (intro w hSw; (try dsimp only at hSw); go_simp; try with_reducible rfl)
      try simp only [Act.put, List.setIfInBounds_toArray, List.set_cons_zero, List.set_cons_succ]
      refine wpAnyH_take (i := 6) (v := ?v22) (by simp only [List.getElem?_toArray, List.getElem?_cons_zero, List.getElem?_cons_succ]; rfl) (by kernel_rfl) (by kernel_rfl) (by kernel_rfl) (by exact fun _ _ _ h => h) (Or.inl ⟨by rfl, ?h22⟩) (by assumption) ?r22
      case h22 => (intro w hSw; (try dsimp only at hSw); go_simp; try with_reducible rfl)
      try simp only [Act.put, List.setIfInBounds_toArray, List.set_cons_zero, List.set_cons_succ]
      refine wpAnyH_take (i := 7) (v := ?v23) (by simp only [List.getElem?_toArray, List.getElem?_cons_zero, List.getElem?_cons_succ]; rfl) (by kernel_rfl) (by kernel_rfl) (by kernel_rfl) (by exact fun _ _ _ h => h) (Or.inl ⟨by rfl, ?h23⟩) (by assumption) ?r23
      case h23 => (intro w hSw; (try dsimp only at hSw); go_simp; try with_reducible rfl)
      try simp only [Act.put, List.setIfInBounds_toArray, List.set_cons_zero, List.set_cons_succ]
      refine wpAnyH_take (i := 8) (v := ?v24) (by simp only [List.getElem?_toArray, List.getElem?_cons_zero, List.getElem?_cons_succ]; rfl) (by kernel_rfl) (by kernel_rfl) (by kernel_rfl) (by exact fun _ _ _ h => h) (Or.inl ⟨by rfl, ?h24⟩) (by assumption) ?r24
      case h24 => (intro w hSw; (try dsimp only at hSw); go_simp; try with_reducible rfl)
      try simp only [Act.put, List.setIfInBounds_toArray, List.set_cons_zero, List.set_cons_succ]
      refine wpAnyH_take (i := 9) (v := ?v25) (by simp only [List.getElem?_toArray, List.getElem?_cons_zero, List.getElem?_cons_succ]; rfl) (by kernel_rfl) (by kernel_rfl) (by kernel_rfl) (by exact fun _ _ _ h => h) (Or.inl ⟨by rfl, ?h25⟩) (by assumption) ?r25
      case h25 => (intro w hSw; (try dsimp only at hSw); go_simp; try with_reducible rfl)
      try simp only [Act.put, List.setIfInBounds_toArray, List.set_cons_zero, List.set_cons_succ]
      refine wpAnyH_ready (rs := [10]) (by kernel_rfl) (by simp) ?_
      refine (AllReadyH.cons (by simp only [List.getElem?_toArray, List.getElem?_cons_zero, List.getElem?_cons_succ]; rfl) (fun K hK => ?_) AllReadyH.nil)
      go_simp
      go_at_call 21
      refine (LA _ ((Below.refl wr.heap.size wr).drew)).mono ?_
      rintro e w8 ⟨rfl, M8, D8, S8⟩
      have SS8 := hid ((LStep.of_below (M := M1) (B := B) ((Below.refl wr.heap.size wr).drew)).trans (LStep.of_step S8))
      have Y8 := hid ((SK.out.below ((Below.refl wr.heap.size wr).drew)).step D8 S8)
      have Z8 := hid (LK.out.trans SS8.out)
      have LR8 := hid (LR.out.lstep SS8.out hBX2.out)
      have E8 := hid (EK.out.lstep SS8.out hBX2.out)
      refine hK.out _ _ ⟨S8.ext.cell hM1l (Below.cellAt ((Below.refl wr.heap.size wr).drew) lwr d0), S8.ext.cell hM1l (Below.cellAt ((Below.refl wr.heap.size wr).drew) lwr d3)⟩ (fun hH26 => ?_)
      clear hK
      try simp only [Act.put, List.setIfInBounds_toArray, List.set_cons_zero, List.set_cons_succ]
      refine wpAnyH_take (i := 11) (v := ?v27) (by simp only [List.getElem?_toArray, List.getElem?_cons_zero, List.getElem?_cons_succ]; rfl) (by kernel_rfl) (by kernel_rfl) (by kernel_rfl) (by exact fun _ _ _ h => h) (Or.inl ⟨by rfl, ?h27⟩) (by assumption) ?r27
      case h27 => (intro w hSw; (try dsimp only at hSw); go_simp; try with_reducible rfl)
      try simp only [Act.put, List.setIfInBounds_toArray, List.set_cons_zero, List.set_cons_succ]
      refine wpAnyH_done (by kernel_rfl) ?_ _
      clear D8 S8 LA SK LK LR EK SS8 sw2
      by_cases hc : cd = 0
      · have f1 := fun o => blk_free (o := o) Y8.out.led.obj
        obtain ⟨-, -, -, d3', -, -, -⟩ := Y8.out.led.cells
        simp only at d3'
        have Y9 := hid (show Sys (w8.setCell ⟨l, 3, none⟩ (.int .i64 (L.used + (k : Int) + 1))) M8 B d l mb (s.lays (idxLays (2 + L.used) (pl.take (k + 1)))).2 { L with used := L.used + ((k + 1 : Nat) : Int) } from by
          rw [HSN.out, show L.used + ((k + 1 : Nat) : Int) = L.used + (k : Int) + 1 by omega]
          exact Y8.out.put (o := 3) (v := .int .i64 (L.used + (k : Int) + 1)) (L' := { L with used := L.used + (k : Int) + 1 }) rfl rfl)
        have P9 := hid (LStep.put (w := w8) (M := M8) Y8.out.led.bl 3 (.int .i64 (L.used + (k : Int) + 1)))
        have hBX8 : ∀ q, B q → M8.X q := fun q hq => (Y8.out.led.bx q hq).1
        have Z9 := hid (Z8.out.trans P9.out)
        have LR9 := hid (LR8.out.lstep P9.out hBX8)
        have E9 := hid (E8.out.lstep P9.out hBX8)
        have HC9 := hid (show (s.lays (idxLays (2 + L.used) (pl.take (k + 1)))).1 = 0 by rw [HSN.out]; exact hc)
        clear hBX8 Y8
        subst hc
        go_wp2_with fail
        go_roundw
        case measure => simp [Go.RowKit.intOf]; omega
        case rel => exact ⟨k + 1, M8, by go_num, by omega, HC9, Y9, Z9, LR9, E9⟩
      · have hc1 : (cd != 0) = true := by simpa using hc
        obtain ⟨st1, st2⟩ := idx_stop (s := s) (b := 2 + L.used) (pl := pl) (k := k + 1) (by rw [HSN.out]; exact hc)
        have HLY := hid (show L.lay s el = (cd, { L with used := L.used + (k : Int) }, (s.lays (idxLays (2 + L.used) (pl.take k))).2.lay (2 + (L.used + (k : Int))) z) by
          unfold LS.lay
          rw [HLL.out, st1, st2, HSN.out, HSNN.out, if_neg hc, if_neg hc]
          rfl)
        clear st1 st2
        go_wp2_with fail
        go_ret
        exact ⟨by rw [HLY.out]; rfl, Went.of (by rw [HLY.out]; exact Y8.out) Z8.out⟩
    · obtain rfl : np = k := by omega
      have HF := hid (show pl.take np = pl by rw [List.take_of_length_le (by rw [HNP.out]; exact Nat.le_refl _)])
      rw [HF.out] at SK HC
      have HLY := hid (show L.lay s el = (0, { L with used := L.used + (L.leafLays el).length, last := L.last + 1, taken := putL L.taken el }, (s.lays (L.leafLays el)).2) by unfold LS.lay; rw [HLL.out, if_pos HC.out])
      have HLN := hid (show (L.leafLays el).length = np by rw [HLL.out, idxLays_length, HNP.out])
      have f1 := fun o => blk_free (o := o) SK.out.led.obj
      have Y6 := hid (SK.out.put (o := 4) (v := .int .i64 (L.last + 1)) (L' := { L with used := L.used + np, last := L.last + 1 }) rfl rfl)
      have Z6 := hid (LStep.put (w := wr) (M := M1) SK.out.led.bl 4 (.int .i64 (L.last + 1)))
      obtain ⟨-, -, -, -, d4, -, -⟩ := SK.out.led.cells
      simp only at d4
      have hBX2 := hid hBX1
      have E6 := hid (EK.out.lstep Z6.out hBX1)
      have Z7 := hid (LK.out.trans Z6.out)
      clear hBX1 SK LK LR EK
      obtain ⟨wo, hwo⟩ : ∃ wo : World, wr.setCell ⟨l, 4, none⟩ (.int .i64 (L.last + 1)) = wo := ⟨_, rfl⟩
      rw [hwo] at Y6 E6 Z7
      go_wp2_with fail
      go_loopw [58] (fun i wx => ∃ k : Nat, i = .int .i64 k ∧ k ≤ n ∧ Hid (Sys wx M1 B d l mb (s.lays (idxLays (2 + L.used) pl)).2 { L with used := L.used + np, last := L.last + 1, taken := putL L.taken (el.take k) }) ∧ Hid (LStep M B w M1 B wx) ∧ Hid (EntsAt wx (inD M1) ea n el)) (fun i _ => n - (Go.RowKit.intOf i).toNat)
      case atStart => exact ⟨0, rfl, Nat.zero_le _, Y6, Z7, E6⟩
      case round =>
        obtain ⟨k, rfl, hk, SY, SZ, EY⟩ := hrel
        by_cases hlt : k < n
        · have hixk := hix k hlt
          obtain ⟨⟨xa, xz⟩, hx⟩ : ∃ x, el[k]? = some x := ⟨_, List.getElem?_eq_getElem (by rw [HEL.out]; exact hlt)⟩
          have e0 := EY.out.c0 k _ hx
          obtain ⟨b, c, e1, rz, hzn, hzb, hzN⟩ := EY.out.c1 k _ hx
          obtain ⟨hm1, hm2, hm3⟩ := HMEM.out _ (List.mem_of_getElem? hx)
          simp only at e0 e1 rz hzn hzb hzN hm1 hm2 hm3
          rw [hm3] at e1
          have HPS := hid (putL_succ (t := L.taken) hx)
          obtain ⟨W1, hW1⟩ : ∃ W1, wr.alloc (.cells #[.int .i64 xa, .slice b 96 c] 100) = W1 := ⟨_, rfl⟩
          have BW1 : Below wr.heap.size wr W1 := by rw [← hW1]; exact (Below.refl _ _).alloc (Nat.le_refl _) _
          have x1 : W1.heap[wr.heap.size]? = some (.cells #[.int .i64 xa, .slice b 96 c] 100 (0, 0)) := by rw [← hW1]; exact blk_new _ _
          have hmbW := SY.out.led.bs _ SY.out.led.bm
          obtain ⟨xb, hxb⟩ : ∃ xb, wr.heap.size = xb := ⟨_, rfl⟩
          rw [hxb] at x1 hmbW
          have y0 : W1.cell? ⟨xb, 0, none⟩ = some (.int .i64 xa) := blk_cell x1 rfl
          have y1 : W1.cell? ⟨xb, 1, none⟩ = some (.slice b 96 c) := blk_cell x1 rfl
          have nxm : ¬ (xb = mb) := by omega
          have lxb : xb < W1.heap.size := lt_of_blk x1
          have SY1 := hid (SY.out.below BW1)
          have SY2 := hid (SZ.out.trans (LStep.of_below (M := M1) (B := B) BW1))
          have EO1 := hid (EY.out.below BW1 (Nat.le_refl _))
          have RZ1 := hid (rz.below BW1 (Nat.le_refl _))
          have BN1 := hid (show b = none → 96 = 0 from fun e => by rw [(hzn e).1] at hm3; simp at hm3)
          have HZB := hid hzb
          have HM3 := hid hm3
          obtain ⟨-, -, -, -, -, f5, -⟩ := SY1.out.led.cells
          have lwl : l < W1.heap.size := SY1.out.led.bs _ SY1.out.led.bl
          have nlm : ¬ (l = mb) := fun e => by
            obtain ⟨V, t1, -⟩ := SY1.out.led.tkn.out
            obtain ⟨es, cl, t2⟩ := t1.blk
            rw [← e, SY1.out.led.obj] at t2
            cases t2
          have XMB : M1.X mb := (SY1.out.led.bx _ SY1.out.led.bm).1
          have SD : ∀ W, Below W1.heap.size W1 W → W.cell? ⟨l, 5, none⟩ = some (.map (some mb)) ∧ W.cell? ⟨xb, 0, none⟩ = some (.int .i64 xa) ∧ W.cell? ⟨xb, 1, none⟩ = some (.slice b 96 c) := fun W h => ⟨Below.cellAt h lwl f5, Below.cellAt h lxb y0, Below.cellAt h lxb y1⟩
          have hx4 : 0 ≤ xa ∧ xa < 4096 := ⟨hm1, by omega⟩
          clear hx x1 rz hzn hzb hzN SY SZ EY BW1 hm3 hm1 hm2
          go_wp2_with fail
          refine wp_region_held_drew (S := fun w' => w'.cell? ⟨l, 5, none⟩ = some (.map (some mb)) ∧ w'.cell? ⟨xb, 0, none⟩ = some (.int .i64 xa) ∧ w'.cell? ⟨xb, 1, none⟩ = some (.slice b 96 c)) (by kernel_rfl) (SD _ ((Below.refl W1.heap.size W1).drew)) (fun hHeld => ?_)
          refine wpAnyH_take (i := 0) (v := ?v28) (by simp only [List.getElem?_toArray, List.getElem?_cons_zero]; rfl) (by kernel_rfl) (by kernel_rfl) (by kernel_rfl) (by exact fun _ _ _ h => h) (Or.inl ⟨by rfl, ?h28⟩) (by assumption) ?r28
          case h28 => (intro w hSw; (try dsimp only at hSw); go_simp; try with_reducible rfl)
          try simp only [Act.put, List.setIfInBounds_toArray, List.set_cons_zero, List.set_cons_succ]
          refine wpAnyH_take (i := 1) (v := ?v29) (by simp only [List.getElem?_toArray, List.getElem?_cons_zero, List.getElem?_cons_succ]; rfl) (by kernel_rfl) (by kernel_rfl) (by kernel_rfl) (by exact fun _ _ _ h => h) (Or.inl ⟨by rfl, ?h29⟩) (by assumption) ?r29
          case h29 => (intro w hSw; (try dsimp only at hSw); go_simp; try with_reducible rfl)
          try simp only [Act.put, List.setIfInBounds_toArray, List.set_cons_zero, List.set_cons_succ]
          refine wpAnyH_take (i := 2) (v := ?v30) (by simp only [List.getElem?_toArray, List.getElem?_cons_zero, List.getElem?_cons_succ]; rfl) (by kernel_rfl) (by kernel_rfl) (by kernel_rfl) (by exact fun _ _ _ h => h) (Or.inl ⟨by rfl, ?h30⟩) (by assumption) ?r30
          case h30 => (intro w hSw; (try dsimp only at hSw); go_simp; try with_reducible rfl)
          try simp only [Act.put, List.setIfInBounds_toArray, List.set_cons_zero, List.set_cons_succ]
          refine wpAnyH_take (i := 3) (v := ?v31) (by simp only [List.getElem?_toArray, List.getElem?_cons_zero, List.getElem?_cons_succ]; rfl) (by kernel_rfl) (by kernel_rfl) (by kernel_rfl) (by exact fun _ _ _ h => h) (Or.inl ⟨by rfl, ?h31⟩) (by assumption) ?r31
          case h31 => (intro w hSw; (try dsimp only at hSw); go_simp; try with_reducible rfl)
          try simp only [Act.put, List.setIfInBounds_toArray, List.set_cons_zero, List.set_cons_succ]
          refine wpAnyH_take (i := 4) (v := ?v32) (by simp only [List.getElem?_toArray, List.getElem?_cons_zero, List.getElem?_cons_succ]; rfl) (by kernel_rfl) (by kernel_rfl) (by kernel_rfl) (by exact fun _ _ _ h => h) (Or.inl ⟨by rfl, ?h32⟩) (by assumption) ?r32
          case h32 => (intro w hSw; (try dsimp only at hSw); go_simp; try with_reducible rfl)
          try simp only [Act.put, List.setIfInBounds_toArray, List.set_cons_zero, List.set_cons_succ]
          refine wpAnyH_take (i := 5) (v := ?v33) (by simp only [List.getElem?_toArray, List.getElem?_cons_zero, List.getElem?_cons_succ]; rfl) (by kernel_rfl) (by kernel_rfl) (by kernel_rfl) (by exact fun _ _ _ h => h) (Or.inl ⟨by rfl, ?h33⟩) (by assumption) ?r33
          case h33 => (intro w hSw; (try dsimp only at hSw); go_simp; try with_reducible rfl)
          try simp only [Act.put, List.setIfInBounds_toArray, List.set_cons_zero, List.set_cons_succ]
          refine wpAnyH_take (i := 6) (v := ?v34) (by simp only [List.getElem?_toArray, List.getElem?_cons_zero, List.getElem?_cons_succ]; rfl) (by kernel_rfl) (by kernel_rfl) (by kernel_rfl) (by exact fun _ _ _ h => h) (Or.inl ⟨by rfl, ?h34⟩) (by assumption) ?r34
          case h34 => (intro w hSw; (try dsimp only at hSw); go_simp; try with_reducible rfl)
          try simp only [Act.put, List.setIfInBounds_toArray, List.set_cons_zero, List.set_cons_succ]
          refine wpAnyH_take (i := 7) (v := ?v35) (by simp only [List.getElem?_toArray, List.getElem?_cons_zero, List.getElem?_cons_succ]; rfl) (by kernel_rfl) (by kernel_rfl) (by kernel_rfl) (by exact fun _ _ _ h => h) (Or.inl ⟨by rfl, ?h35⟩) (by assumption) ?r35
          case h35 => (intro w hSw; (try dsimp only at hSw); go_simp; try with_reducible rfl)
          try simp only [Act.put, List.setIfInBounds_toArray, List.set_cons_zero, List.set_cons_succ]
          refine wpAnyH_ready (rs := [8]) (by kernel_rfl) (by simp) ?_
          refine (AllReadyH.cons (by simp only [List.getElem?_toArray, List.getElem?_cons_zero, List.getElem?_cons_succ]; rfl) (fun K hK => ?_) AllReadyH.nil)
          go_simp
          go_at_call 43
          refine (cloneB_any b 96 c xz _ ((Row.keep RZ1.out (w' := W1.drew) (fun _ => rfl))) HM3.out BN1.out (by decide)).mono ?_
          rintro e wq36 ⟨v36, rfl, o36, C36⟩
          obtain ⟨b36, c36, e836, rr36, -, cc36, lo36⟩ := own96 o36
          subst e836
          have BB36 := ((Below.refl W1.heap.size W1).drew).trans (C36.mono (Below.size ((Below.refl W1.heap.size W1).drew)))
          refine hK.out _ _ (SD _ BB36) (fun hH37 => ?_)
          clear hK
          try simp only [Act.put, List.setIfInBounds_toArray, List.set_cons_zero, List.set_cons_succ]
          refine wpAnyH_ready (rs := [9]) (by kernel_rfl) (by simp) ?_
          refine (AllReadyH.cons (by simp only [List.getElem?_toArray, List.getElem?_cons_zero, List.getElem?_cons_succ]; rfl) (fun K hK => ?_) AllReadyH.nil)
          have TRK : Trk wq36 M1 (.slice (some b36) 96 c36) xz := ⟨b36, c36, rfl, rr36, HM3.out, fun hm => by have h7 := hm.elim (SY1.out.drum.ml _) (SY1.out.drum.xl _); have h8 : W1.heap.size ≤ b36.block := lo36; omega, HZB.out, cc36⟩
          have SYq := hid (SY1.out.below (BB36))
          obtain ⟨wm, hrun, TK, kx⟩ := SYq.out.led.tkn.store (x := (xa, xz)) TRK hx4 XMB
          simp only at hrun
          go_simp
          refine hK.out _ _ ⟨kx.cell nlm (Below.cellAt (BB36) lwl f5), kx.cell nxm (Below.cellAt (BB36) lxb y0), kx.cell nxm (Below.cellAt (BB36) lxb y1)⟩ (fun hH38 => ?_)
          clear hK
          try simp only [Act.put, List.setIfInBounds_toArray, List.set_cons_zero, List.set_cons_succ]
          refine wpAnyH_done (by kernel_rfl) ?_ _
          have SYN := SYq.out.tknPut kx TK
          have SN := hid (show Sys wm M1 B d l mb (s.lays (idxLays (2 + L.used) pl)).2 { L with used := L.used + np, last := L.last + 1, taken := putL L.taken (el.take (k + 1)) } by rw [HPS.out]; exact SYN.1)
          have LBm := hid ((LStep.of_below (M := M1) (B := B) (BB36)).trans SYN.2)
          have SL := hid (SY2.out.trans LBm.out)
          have EN := hid (EO1.out.lstep LBm.out hBX2.out)
          clear TK kx SYN hrun TRK SYq
          go_wp2_with fail
          go_roundw
          case measure => simp [Go.RowKit.intOf]; omega
          case rel => exact ⟨k + 1, by go_num, by omega, SN, SL, EN⟩
        · obtain rfl : n = k := by omega
          have HFE := hid (show el.take n = el by rw [List.take_of_length_le (by rw [HEL.out]; exact Nat.le_refl _)])
          rw [HFE.out] at SY
          go_wp2_with fail
          go_ret
          exact ⟨by rw [HLY.out]; rfl, Went.of (by rw [HLY.out, HLN.out, HLL.out]; exact SY.out) SZ.out⟩

end Go.Proofs.YtleoelhhndeheaaGreat
