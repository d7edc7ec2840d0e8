import Derived.Test.YtleoelhhndeheaaGreatLedN
/- package ledger: what the calls keep within bounds -/
open Go Go.RowKit
namespace Go.Proofs.YtleoelhhndeheaaGreat

theorem DS.turned_nn (s : DS) (r l : Int) : (s.turned r l).2.n = s.n := (DS.turned_n s r l).1
theorem LS.homeLays_length (L : LS) (H : Nat) : (L.homeLays H).length ≤ H := by
  rw [homeLays_eq, List.length_map]; exact homeKeys_length _ _
structure LS.Keep (L : LS) (s : DS) (r : Int × LS × DS) (k : Int) (u : Nat) : Prop where
  ok : r.2.1.Ok r.2.2
  n : r.2.2.n = s.n
  leaves : r.2.1.leaves = L.leaves
  round : r.2.1.round ≤ L.round + k
  up : r.2.2.up.length ≤ s.up.length + u
theorem LS.Ok.to {L L' : LS} {s s' : DS} (ok : L.Ok s) (hn : s'.n = s.n) (hl : L'.leaves = L.leaves) (hr : 0 ≤ L'.round ∧ L'.round < 281474976710000) (hu : 0 ≤ L'.used ∧ L'.used ≤ L.leaves) (hk : 0 ≤ L'.last ∧ L'.last < 1000000000)
    (ht : L'.taken = L.taken ∨ L'.taken = fun _ => none) : L'.Ok s' := by
  refine ⟨by rw [hn]; exact ok.n1, hr, by rw [hn, hl]; exact ok.l, by rw [hl]; exact hu, hk, fun x hx => ?_, fun x zs hx => ?_⟩
  · rw [hn, hl]
    rcases ht with ht | ht <;> rw [ht] at hx
    · exact ok.t x hx
    · cases hx
  · rcases ht with ht | ht <;> rw [ht] at hx
    · exact ok.z x zs hx
    · cases hx
theorem LS.goHome_keep {L : LS} {s : DS} (ok : L.Ok s) (hr : L.round < 281474976700000) : LS.Keep L s (L.goHome s) 1 4097 := by
  have hl := DS.lays_n s (L.homeLays (L.H s))
  have hh := LS.homeLays_length L (L.H s)
  have hH : L.H s ≤ 4096 := by have := ok.n1; have := ok.l; unfold LS.H; omega
  have hsn := DS.settle_n' (s.lays (L.homeLays (L.H s))).2
  have hsu := DS.settle_up (s.lays (L.homeLays (L.H s))).2
  have ht := DS.turned_n (s.lays (L.homeLays (L.H s))).2.settle (L.round + 1) L.leaves
  have h1 := ok.r
  have h2 := ok.u
  have h3 := ok.k
  have h4 := ok.l
  unfold LS.goHome
  split
  · split
    · split
      · exact ⟨ok.to (by rw [ht.1, hsn, hl.1]) rfl ⟨by show 0 ≤ L.round + 1; omega, by show L.round + 1 < _; omega⟩ ⟨Int.le_refl _, by show 0 ≤ L.leaves; omega⟩ ⟨Int.le_refl _, by show (0 : Int) < _; omega⟩ (.inr rfl), by show (DS.turned _ _ _).2.n = _; rw [ht.1, hsn, hl.1], rfl, Int.le_refl _, by show (DS.turned _ _ _).2.up.length ≤ _; omega⟩
      · exact ⟨ok.to (by rw [ht.1, hsn, hl.1]) rfl ⟨by show 0 ≤ L.round + 1; omega, by show L.round + 1 < _; omega⟩ h2 h3 (.inl rfl), by show (DS.turned _ _ _).2.n = _; rw [ht.1, hsn, hl.1], rfl, Int.le_refl _, by show (DS.turned _ _ _).2.up.length ≤ _; omega⟩
    · exact ⟨ok.to (by rw [hsn, hl.1]) rfl h1 h2 h3 (.inl rfl), by show (DS.settle _).n = _; rw [hsn, hl.1], rfl, by show L.round ≤ _; omega, by show (DS.settle _).up.length ≤ _; omega⟩
  · exact ⟨ok.to hl.1 rfl h1 h2 h3 (.inl rfl), hl.1, rfl, by show L.round ≤ _; omega, by show (s.lays _).2.up.length ≤ _; omega⟩
theorem LS.Keep.ends {L : LS} {s : DS} {r : Int × LS × DS} {k : Int} {u : Nat} (h : LS.Keep L s r k u) (e : Int) : LS.Keep L s (r.1, r.2.1.ends e, r.2.2) k u :=
  ⟨h.ok.to rfl rfl h.ok.r h.ok.u h.ok.k (.inl rfl), h.n, h.leaves, h.round, h.up⟩
theorem LS.Keep.trans {L : LS} {s : DS} {r r' : Int × LS × DS} {k k' : Int} {u u' : Nat} (h : LS.Keep L s r k u) (h' : LS.Keep r.2.1 r.2.2 r' k' u') : LS.Keep L s r' (k + k') (u + u') :=
  ⟨h'.ok, h'.n.trans h.n, h'.leaves.trans h.leaves, by have := h.round; have := h'.round; omega, by have := h.up; have := h'.up; omega⟩
theorem LS.settle_keep {L : LS} {s : DS} (ok : L.Ok s) : LS.Keep L s (L.settle s) 0 0 := by
  obtain ⟨h1, h2, h3, h4, h5⟩ := LS.settle_ok ok
  exact ⟨h1, h2, h5, by omega, by omega⟩
theorem LS.Keep.le {L : LS} {s : DS} {r : Int × LS × DS} {k k' : Int} {u u' : Nat} (h : LS.Keep L s r k u) (hk : k ≤ k') (hu : u ≤ u') : LS.Keep L s r k' u' :=
  ⟨h.ok, h.n, h.leaves, by have := h.round; omega, by have := h.up; omega⟩
theorem LS.balance_keep {L : LS} {s : DS} (ok : L.Ok s) (hr : L.round < 281474976700000) : LS.Keep L s (L.balance s) 1 4097 := by
  have h1 := LS.settle_keep ok
  have h2 := LS.goHome_keep h1.ok (by have := h1.round; omega)
  unfold LS.balance
  split
  · exact ((h1.trans h2).ends _).le (by omega) (by omega)
  · exact h1.le (by omega) (by omega)
theorem putL_get : ∀ {l : List Ent} {t : Tkn} {x : Int} {zs : List Int}, putL t l x = some zs → t x = some zs ∨ (x, zs) ∈ l
  | [], _, _, _, h => .inl h
  | y :: l, t, x, zs, h => by
    have h : putL (putE t y) l x = some zs := h
    rcases putL_get h with h | h
    · unfold putE at h
      split at h
      · rename_i e
        cases h
        exact .inr (by rw [e]; exact List.mem_cons_self ..)
      · exact .inl h
    · exact .inr (List.mem_cons_of_mem _ h)
theorem LS.lay_keep {L : LS} {s : DS} {el : List Ent} (ok : L.Ok s) (hm : mayE el (L.H s) = true) (hb : ∀ x ∈ el, IsBytes x.2) (hle : leavesN el.length ≤ L.leaves - L.used) (hl : L.last < 999999000) : LS.Keep L s (L.lay s el) 0 4097 := by
  have h0 : 0 < el.length := by
    unfold mayE at hm
    rw [Bool.and_eq_true, decide_eq_true_eq] at hm
    exact hm.2
  have hmem := mayE_mem hm
  have hlen : (L.leafLays el).length = (2 + el.length * 98 + 63) / 64 := by unfold LS.leafLays; rw [idxLays_length, postL_length rfl h0]
  rw [postN_eq h0] at hle
  have hla := DS.lays_n s (L.leafLays el)
  have h1 := ok.r
  have h2 := ok.u
  have h3 := ok.k
  have h4 := ok.l
  have h5 := ok.n1
  have hN : s.laysN (L.leafLays el) ≤ (L.leafLays el).length := by
    generalize L.leafLays el = q
    clear hla hlen
    induction q generalizing s with
    | nil => exact Nat.le_refl _
    | cons y q ih =>
      have hn : s.laysN (y :: q) = if s.layCode y.1 y.2 = 0 then (s.lay y.1 y.2).laysN q + 1 else 0 := rfl
      rw [hn]
      split
      · have hno := DS.lay_n' s y.1 y.2
        have := ih (s := s.lay y.1 y.2) (ok.to hno rfl h1 h2 h3 (.inl rfl)) (by unfold LS.H; rw [hno]; exact hm) (by unfold LS.H; rw [hno]; exact hmem) (by rw [hno]; exact h4) (by rw [hno]; exact h5)
        simp; omega
      · exact Nat.zero_le _
  unfold LS.lay
  split
  · refine ⟨⟨by show (s.lays _).2.n ≤ _; rw [hla.1]; exact h5, h1, by show _ ∧ L.leaves + 4 ≤ (s.lays _).2.n; rw [hla.1]; exact h4, by show 0 ≤ L.used + _ ∧ L.used + _ ≤ L.leaves; omega, by show 0 ≤ L.last + 1 ∧ L.last + 1 < _; omega, fun x hx => ?_, fun x zs hx => ?_⟩, hla.1, rfl, by show L.round ≤ _; omega, by show (s.lays _).2.up.length ≤ _; omega⟩
    · show 0 ≤ x ∧ x < ((s.lays _).2.n : Int) - (2 + L.leaves)
      rw [hla.1]
      obtain ⟨zs, hz⟩ := Option.isSome_iff_exists.1 hx
      rcases putL_get hz with h | h
      · exact ok.t x (by rw [h]; rfl)
      · have := hmem _ h
        have hH : (L.H s : Int) = s.n - (2 + L.leaves) := by unfold LS.H; omega
        simp only at this
        omega
    · rcases putL_get hx with h | h
      · exact ok.z x zs h
      · exact ⟨(hmem _ h).2.2, hb _ h⟩
  · exact ⟨ok.to hla.1 rfl h1 (by show 0 ≤ L.used + _ ∧ L.used + _ ≤ L.leaves; omega) h3 (.inl rfl), hla.1, rfl, by show L.round ≤ _; omega, by show (s.lays _).2.up.length ≤ _; omega⟩

theorem LS.goHome_zero {L : LS} {s : DS} (h : (L.goHome s).1 = 0) : (L.goHome s).2.1 = { L with round := L.round + 1, used := 0, last := 0, taken := fun _ => none } := by
  unfold LS.goHome at h ⊢
  split
  · rename_i h1
    rw [if_pos h1] at h
    split
    · rename_i h2
      rw [if_pos h2] at h
      split
      · rfl
      · rename_i h3
        rw [if_neg h3] at h
        exact absurd h h3
    · rename_i h2
      rw [if_neg h2] at h
      exact absurd h h2
  · rename_i h1
    rw [if_neg h1] at h
    exact absurd h h1
theorem LS.balance_zero {L : LS} {s : DS} (h : (L.balance s).1 = 0) : (L.balance s).2.1.used = 0 ∧ (L.balance s).2.1.last = 0 ∧ (L.balance s).2.1.lost = false ∧ (L.balance s).2.1.taken = fun _ => none := by
  unfold LS.balance at h ⊢
  split
  · rename_i h1
    rw [if_pos h1] at h
    have hz := LS.goHome_zero h
    have h : ((L.settle s).2.1.goHome (L.settle s).2.2).1 = 0 := h
    show (LS.ends _ _).used = 0 ∧ (LS.ends _ _).last = 0 ∧ (LS.ends _ _).lost = false ∧ (LS.ends _ _).taken = _
    rw [h, ends_zero, hz]
    refine ⟨rfl, rfl, ?_, rfl⟩
    show (L.settle s).2.1.lost = false
    unfold LS.settle at h1 ⊢
    split
    · rename_i h2
      rw [if_pos h2] at h1
      cases h1
    · rename_i h2
      rw [if_neg h2] at h1
      show (L.lost || decide (s.code = 4)) = false
      have h1 : s.code = 0 := h1
      rw [h1]
      simpa using h2
  · rename_i h1
    rw [if_neg h1] at h
    exact absurd h h1
theorem LS.write_keep {L : LS} {s : DS} {el : List Ent} (ok : L.Ok s) (hb : ∀ x ∈ el, IsBytes x.2) (hr : L.round < 281474976700000) (hl : L.last < 999999000) : LS.Keep L s (L.write s el) 1 9000 := by
  have h0 : LS.Keep L s (1, L, s) 1 9000 := ⟨ok, rfl, rfl, by show L.round ≤ _; omega, by show s.up.length ≤ _; omega⟩
  have h4 : LS.Keep L s (4, L, s) 1 9000 := ⟨ok, rfl, rfl, by show L.round ≤ _; omega, by show s.up.length ≤ _; omega⟩
  have h5 : LS.Keep L s (5, L, s) 1 9000 := ⟨ok, rfl, rfl, by show L.round ≤ _; omega, by show s.up.length ≤ _; omega⟩
  unfold LS.write
  split
  · rename_i hm
    split
    · exact h4
    · split
      · exact h5
      · rename_i hbig
        split
        · have hbk := LS.balance_keep ok hr
          split
          · rename_i hz
            obtain ⟨z1, z2, z3, z4⟩ := LS.balance_zero hz
            have hH : (L.balance s).2.1.H (L.balance s).2.2 = L.H s := by unfold LS.H; rw [hbk.leaves, hbk.n]
            have hk := LS.lay_keep (el := el) hbk.ok (by rw [hH]; exact hm) hb (by rw [hbk.leaves, z1]; omega) (by rw [z2]; decide)
            exact ((hbk.trans (hk.ends _))).le (by omega) (by omega)
          · exact hbk.le (by omega) (by omega)
        · rename_i hbl
          have hk := LS.lay_keep (el := el) ok hm hb (by omega) hl
          exact (hk.ends _).le (by omega) (by omega)
  · exact h0

end Go.Proofs.YtleoelhhndeheaaGreat

/- package ledger: Write, Open -/
open Go Go.RowKit
namespace Go.Proofs.YtleoelhhndeheaaGreat

theorem leavesN_bd {n : Nat} (h : n ≤ 60000) : 0 ≤ leavesN n ∧ leavesN n ≤ 100000 := by
  unfold leavesN
  split <;> omega

set_option maxRecDepth 100000 in
set_option maxHeartbeats 8000000 in
theorem write_any {w : World} {M : Dom} {B : Nat → Prop} {d l mb : Nat} {s : DS} {L : LS} (h : Sys w M B d l mb s L) (ok : L.Ok s) (hr : L.round < 281474976700000) (hu : s.up.length < 300000000) (ea : Option Addr) (n cap : Nat) (el : List Ent) (hE : EntsAt w (inD M) ea n el) (hn : n ≤ 60000) :
    Calls Tryz.prog 46 #[.pointer (some ⟨l, 0, none⟩), .slice ea n cap] w fun e w' => e = .returned (.int .i64 (L.write s el).1) ∧ Went w M B d l (L.write s el) w' := by
  have HS := hid h
  have EH := hid hE
  have OK := hid ok
  have okl := ok.l
  have okn := ok.n1
  have oku := ok.u
  obtain ⟨H, hH, hH2⟩ : ∃ H : Nat, L.H s = H ∧ (H : Int) + (2 + L.leaves) = s.n := ⟨_, rfl, by unfold LS.H; omega⟩
  have HHH := hid hH
  have HA := home_any h ok.lv
  rw [hH] at HA
  have MA := may_any ea n cap el (inD M) H w hE (by omega) (by omega)
  have HEL := hid hE.len
  have LVb := leavesN_bd hn
  have LV := fun W => leaves_any (n : Int) W (by omega)
  obtain ⟨ln, hln⟩ : ∃ ln, leavesN (n : Int) = ln := ⟨_, rfl⟩
  rw [hln] at LV LVb
  have HLN := hid (show leavesN el.length = ln by rw [hE.len, hln])
  obtain ⟨c0, -, c2, -, -, -, c6⟩ := h.led.cells
  have lw := lt_of_cell c0
  have HBX := hid (show ∀ q, B q → M.X q from fun q hq => (h.led.bx q hq).1)
  obtain ⟨my, hmy⟩ : ∃ my, mayE el H = my := ⟨_, rfl⟩
  rw [hmy] at MA
  have HMY := hid hmy
  cases my with
  | false =>
    have HW := hid (show L.write s el = (1, L, s) by unfold LS.write; rw [hH, hmy]; rfl)
    clear h ok hE hH hmy hln
    go_enter Tryz.func46, Tryz.ntmps46
    go_wp2_with fail
    refine HA.mono ?_
    rintro e w1 ⟨rfl, rfl⟩
    clear HA
    go_wp2_with fail
    refine MA.mono ?_
    rintro e w2 ⟨rfl, B2⟩
    have S2 := hid (HS.out.below B2)
    have L2 := hid (show LStep M B w M B w2 from LStep.of_below B2)
    clear MA B2
    go_wp2_with fail
    go_ret
    exact ⟨by rw [HW.out]; rfl, Went.of (by rw [HW.out]; exact S2.out) L2.out⟩
  | true =>
    obtain ⟨lo, hlo⟩ : ∃ lo, L.lost = lo := ⟨_, rfl⟩
    rw [hlo] at c6
    have HLO := hid hlo
    cases lo with
    | true =>
      have HW := hid (show L.write s el = (4, L, s) by unfold LS.write; rw [hH, hmy, hlo]; rfl)
      clear h ok hE hH hmy hln hlo
      go_enter Tryz.func46, Tryz.ntmps46
      go_wp2_with fail
      refine HA.mono ?_
      rintro e w1 ⟨rfl, rfl⟩
      clear HA
      go_wp2_with fail
      refine MA.mono ?_
      rintro e w2 ⟨rfl, B2⟩
      have S2 := hid (HS.out.below B2)
      have L2 := hid (show LStep M B w M B w2 from LStep.of_below B2)
      have c6' := Below.cellAt B2 lw c6
      clear MA B2
      go_wp2_with fail
      go_ret
      exact ⟨by rw [HW.out]; rfl, Went.of (by rw [HW.out]; exact S2.out) L2.out⟩
    | false =>
      have HW0 := hid (show L.write s el = if ln > L.leaves then (5, L, s) else if ln > L.leaves - L.used then (if (L.balance s).1 = 0 then (L.balance s).2.1.layEnds (L.balance s).2.2 el else L.balance s) else L.layEnds s el by
        unfold LS.write; rw [hH, hmy, hlo, HLN.out]; rfl)
      have HMM := hid hmy
      by_cases hbig : L.leaves < ln
      · have HW := hid (show L.write s el = (5, L, s) by rw [HW0.out, if_pos hbig])
        have SB : ∀ W, Below w.heap.size w W → W.cell? ⟨l, 2, none⟩ = some (.int .i64 L.leaves) ∧ True := fun W h => ⟨Below.cellAt h lw c2, trivial⟩
        clear h ok hE hH hmy hln hlo HW0
        go_enter Tryz.func46, Tryz.ntmps46
        go_wp2_with fail
        refine HA.mono ?_
        rintro e w1 ⟨rfl, rfl⟩
        clear HA
        go_wp2_with fail
        refine MA.mono ?_
        rintro e w2 ⟨rfl, B2⟩
        have S2 := hid (HS.out.below B2)
        have L2 := hid (show LStep M B w M B w2 from LStep.of_below B2)
        have c6' := Below.cellAt B2 lw c6
        have B2H := hid B2
        clear MA B2
        go_wp2_with fail
        refine wp_region_held_drew (S := fun w' => w'.cell? ⟨l, 2, none⟩ = some (.int .i64 L.leaves) ∧ True) (by kernel_rfl) (SB _ ((B2H.out).drew)) (fun hHeld => ?_)
        refine wpAnyH_take (i := 0) (v := ?v1) (by simp only [List.getElem?_toArray, List.getElem?_cons_zero]; rfl) (by kernel_rfl) (by kernel_rfl) (by kernel_rfl) (by exact fun _ _ _ h => h) (Or.inl ⟨by rfl, ?h1⟩) (by assumption) ?r1
        case h1 => (intro w hSw; (try dsimp only at hSw); go_simp; try with_reducible rfl)
        try simp only [Act.put, List.setIfInBounds_toArray, List.set_cons_zero, List.set_cons_succ]
        refine wpAnyH_take (i := 3) (v := ?v2) (by simp only [List.getElem?_toArray, List.getElem?_cons_zero, List.getElem?_cons_succ]; rfl) (by kernel_rfl) (by kernel_rfl) (by kernel_rfl) (by exact fun _ _ _ h => h) (Or.inl ⟨by rfl, ?h2⟩) (by assumption) ?r2
        case h2 => (intro w hSw; (try dsimp only at hSw); go_simp; try with_reducible rfl)
        try simp only [Act.put, List.setIfInBounds_toArray, List.set_cons_zero, List.set_cons_succ]
        refine wpAnyH_take (i := 4) (v := ?v3) (by simp only [List.getElem?_toArray, List.getElem?_cons_zero, List.getElem?_cons_succ]; rfl) (by kernel_rfl) (by kernel_rfl) (by kernel_rfl) (by exact fun _ _ _ h => h) (Or.inl ⟨by rfl, ?h3⟩) (by assumption) ?r3
        case h3 => (intro w hSw; (try dsimp only at hSw); go_simp; try with_reducible rfl)
        try simp only [Act.put, List.setIfInBounds_toArray, List.set_cons_zero, List.set_cons_succ]
        refine wpAnyH_take (i := 5) (v := ?v4) (by simp only [List.getElem?_toArray, List.getElem?_cons_zero, List.getElem?_cons_succ]; rfl) (by kernel_rfl) (by kernel_rfl) (by kernel_rfl) (by exact fun _ _ _ h => h) (Or.inl ⟨by rfl, ?h4⟩) (by assumption) ?r4
        case h4 => (intro w hSw; (try dsimp only at hSw); go_simp; try with_reducible rfl)
        try simp only [Act.put, List.setIfInBounds_toArray, List.set_cons_zero, List.set_cons_succ]
        refine wpAnyH_take (i := 6) (v := ?v5) (by simp only [List.getElem?_toArray, List.getElem?_cons_zero, List.getElem?_cons_succ]; rfl) (by kernel_rfl) (by kernel_rfl) (by kernel_rfl) (by exact fun _ _ _ h => h) (Or.inl ⟨by rfl, ?h5⟩) (by assumption) ?r5
        case h5 => (intro w hSw; (try dsimp only at hSw); go_simp; try with_reducible rfl)
        try simp only [Act.put, List.setIfInBounds_toArray, List.set_cons_zero, List.set_cons_succ]
        refine wpAnyH_take (i := 7) (v := ?v6) (by simp only [List.getElem?_toArray, List.getElem?_cons_zero, List.getElem?_cons_succ]; rfl) (by kernel_rfl) (by kernel_rfl) (by kernel_rfl) (by exact fun _ _ _ h => h) (Or.inl ⟨by rfl, ?h6⟩) (by assumption) ?r6
        case h6 => (intro w hSw; (try dsimp only at hSw); go_simp; try with_reducible rfl)
        try simp only [Act.put, List.setIfInBounds_toArray, List.set_cons_zero, List.set_cons_succ]
        refine wpAnyH_ready (rs := [1]) (by kernel_rfl) (by simp) ?_
        refine (AllReadyH.cons (by simp only [List.getElem?_toArray, List.getElem?_cons_zero, List.getElem?_cons_succ]; rfl) (fun K hK => ?_) AllReadyH.nil)
        go_simp
        refine hK.out _ _ (SB _ (B2H.out).drew) (fun hH7 => ?_)
        clear hK
        try simp only [Act.put, List.setIfInBounds_toArray, List.set_cons_zero, List.set_cons_succ]
        refine wpAnyH_ready (rs := [2]) (by kernel_rfl) (by simp) ?_
        refine (AllReadyH.cons (by simp only [List.getElem?_toArray, List.getElem?_cons_zero, List.getElem?_cons_succ]; rfl) (fun K hK => ?_) AllReadyH.nil)
        go_simp
        go_at_call 69
        refine (LV _).mono ?_
        rintro e wq8 ⟨rfl, rfl⟩
        refine hK.out _ _ (SB _ (B2H.out).drew) (fun hH9 => ?_)
        clear hK
        try simp only [Act.put, List.setIfInBounds_toArray, List.set_cons_zero, List.set_cons_succ]
        refine wpAnyH_take (i := 8) (v := ?v10) (by simp only [List.getElem?_toArray, List.getElem?_cons_zero, List.getElem?_cons_succ]; rfl) (by kernel_rfl) (by kernel_rfl) (by kernel_rfl) (by exact fun _ _ _ h => h) (Or.inl ⟨by rfl, ?h10⟩) (by assumption) ?r10
        case h10 => (intro w hSw; (try dsimp only at hSw); go_simp; try with_reducible rfl)
        try simp only [Act.put, List.setIfInBounds_toArray, List.set_cons_zero, List.set_cons_succ]
        refine wpAnyH_take (i := 9) (v := ?v11) (by simp only [List.getElem?_toArray, List.getElem?_cons_zero, List.getElem?_cons_succ]; rfl) (by kernel_rfl) (by kernel_rfl) (by kernel_rfl) (by exact fun _ _ _ h => h) (Or.inl ⟨by rfl, ?h11⟩) (by assumption) ?r11
        case h11 => (intro w hSw; (try dsimp only at hSw); go_simp; try with_reducible rfl)
        try simp only [Act.put, List.setIfInBounds_toArray, List.set_cons_zero, List.set_cons_succ]
        refine wpAnyH_done (by kernel_rfl) ?_ _
        have S3 := hid (S2.out.below ((Below.refl _ _).drew))
        have L3 := hid (L2.out.trans (LStep.of_below (M := M) (B := B) ((Below.refl w2.heap.size w2).drew)))
        go_wp2_with fail
        go_ret
        exact ⟨by rw [HW.out]; rfl, Went.of (by rw [HW.out]; exact S3.out) L3.out⟩
      · have hbig2 : ln ≤ L.leaves := by omega
        have SB : ∀ W, Below w.heap.size w W → W.cell? ⟨l, 2, none⟩ = some (.int .i64 L.leaves) ∧ True := fun W h => ⟨Below.cellAt h lw c2, trivial⟩
        have BK := fun (W : World) (Bw : Below w.heap.size w W) => blank_any (h.below Bw) ok
        have BA := fun (W : World) (Bw : Below w.heap.size w W) => balance_any (h.below Bw) ok (by omega)
        have LA := fun (W : World) (Bw : Below w.heap.size w W) => layL_any (h.below Bw) ok (by omega) ea n cap el (hE.below Bw (Nat.le_refl _)) hn (by rw [hH]; exact hmy)
        clear h ok hE hH hmy hln hlo
        go_enter Tryz.func46, Tryz.ntmps46
        go_wp2_with fail
        refine HA.mono ?_
        rintro e w1 ⟨rfl, rfl⟩
        clear HA
        go_wp2_with fail
        refine MA.mono ?_
        rintro e w2 ⟨rfl, B2⟩
        have S2 := hid (HS.out.below B2)
        have c6' := Below.cellAt B2 lw c6
        have B2H := hid B2
        clear MA B2
        go_wp2_with fail
        refine wp_region_held_drew (S := fun w' => w'.cell? ⟨l, 2, none⟩ = some (.int .i64 L.leaves) ∧ True) (by kernel_rfl) (SB _ ((B2H.out).drew)) (fun hHeld => ?_)
        refine wpAnyH_take (i := 0) (v := ?v12) (by simp only [List.getElem?_toArray, List.getElem?_cons_zero]; rfl) (by kernel_rfl) (by kernel_rfl) (by kernel_rfl) (by exact fun _ _ _ h => h) (Or.inl ⟨by rfl, ?h12⟩) (by assumption) ?r12
        case h12 => (intro w hSw; (try dsimp only at hSw); go_simp; try with_reducible rfl)
        try simp only [Act.put, List.setIfInBounds_toArray, List.set_cons_zero, List.set_cons_succ]
        refine wpAnyH_take (i := 3) (v := ?v13) (by simp only [List.getElem?_toArray, List.getElem?_cons_zero, List.getElem?_cons_succ]; rfl) (by kernel_rfl) (by kernel_rfl) (by kernel_rfl) (by exact fun _ _ _ h => h) (Or.inl ⟨by rfl, ?h13⟩) (by assumption) ?r13
        case h13 => (intro w hSw; (try dsimp only at hSw); go_simp; try with_reducible rfl)
        try simp only [Act.put, List.setIfInBounds_toArray, List.set_cons_zero, List.set_cons_succ]
        refine wpAnyH_take (i := 4) (v := ?v14) (by simp only [List.getElem?_toArray, List.getElem?_cons_zero, List.getElem?_cons_succ]; rfl) (by kernel_rfl) (by kernel_rfl) (by kernel_rfl) (by exact fun _ _ _ h => h) (Or.inl ⟨by rfl, ?h14⟩) (by assumption) ?r14
        case h14 => (intro w hSw; (try dsimp only at hSw); go_simp; try with_reducible rfl)
        try simp only [Act.put, List.setIfInBounds_toArray, List.set_cons_zero, List.set_cons_succ]
        refine wpAnyH_take (i := 5) (v := ?v15) (by simp only [List.getElem?_toArray, List.getElem?_cons_zero, List.getElem?_cons_succ]; rfl) (by kernel_rfl) (by kernel_rfl) (by kernel_rfl) (by exact fun _ _ _ h => h) (Or.inl ⟨by rfl, ?h15⟩) (by assumption) ?r15
        case h15 => (intro w hSw; (try dsimp only at hSw); go_simp; try with_reducible rfl)
        try simp only [Act.put, List.setIfInBounds_toArray, List.set_cons_zero, List.set_cons_succ]
        refine wpAnyH_take (i := 6) (v := ?v16) (by simp only [List.getElem?_toArray, List.getElem?_cons_zero, List.getElem?_cons_succ]; rfl) (by kernel_rfl) (by kernel_rfl) (by kernel_rfl) (by exact fun _ _ _ h => h) (Or.inl ⟨by rfl, ?h16⟩) (by assumption) ?r16
        case h16 => (intro w hSw; (try dsimp only at hSw); go_simp; try with_reducible rfl)
        try simp only [Act.put, List.setIfInBounds_toArray, List.set_cons_zero, List.set_cons_succ]
        refine wpAnyH_take (i := 7) (v := ?v17) (by simp only [List.getElem?_toArray, List.getElem?_cons_zero, List.getElem?_cons_succ]; rfl) (by kernel_rfl) (by kernel_rfl) (by kernel_rfl) (by exact fun _ _ _ h => h) (Or.inl ⟨by rfl, ?h17⟩) (by assumption) ?r17
        case h17 => (intro w hSw; (try dsimp only at hSw); go_simp; try with_reducible rfl)
        try simp only [Act.put, List.setIfInBounds_toArray, List.set_cons_zero, List.set_cons_succ]
        refine wpAnyH_ready (rs := [1]) (by kernel_rfl) (by simp) ?_
        refine (AllReadyH.cons (by simp only [List.getElem?_toArray, List.getElem?_cons_zero, List.getElem?_cons_succ]; rfl) (fun K hK => ?_) AllReadyH.nil)
        go_simp
        refine hK.out _ _ (SB _ (B2H.out).drew) (fun hH18 => ?_)
        clear hK
        try simp only [Act.put, List.setIfInBounds_toArray, List.set_cons_zero, List.set_cons_succ]
        refine wpAnyH_ready (rs := [2]) (by kernel_rfl) (by simp) ?_
        refine (AllReadyH.cons (by simp only [List.getElem?_toArray, List.getElem?_cons_zero, List.getElem?_cons_succ]; rfl) (fun K hK => ?_) AllReadyH.nil)
        go_simp
        go_at_call 69
        refine (LV _).mono ?_
        rintro e wq19 ⟨rfl, rfl⟩
        refine hK.out _ _ (SB _ (B2H.out).drew) (fun hH20 => ?_)
        clear hK
        try simp only [Act.put, List.setIfInBounds_toArray, List.set_cons_zero, List.set_cons_succ]
        refine wpAnyH_take (i := 8) (v := ?v21) (by simp only [List.getElem?_toArray, List.getElem?_cons_zero, List.getElem?_cons_succ]; rfl) (by kernel_rfl) (by kernel_rfl) (by kernel_rfl) (by exact fun _ _ _ h => h) (Or.inl ⟨by rfl, ?h21⟩) (by assumption) ?r21
        case h21 => (intro w hSw; (try dsimp only at hSw); go_simp; try with_reducible rfl)
        try simp only [Act.put, List.setIfInBounds_toArray, List.set_cons_zero, List.set_cons_succ]
        refine wpAnyH_take (i := 9) (v := ?v22) (by simp only [List.getElem?_toArray, List.getElem?_cons_zero, List.getElem?_cons_succ]; rfl) (by kernel_rfl) (by kernel_rfl) (by kernel_rfl) (by exact fun _ _ _ h => h) (Or.inl ⟨by rfl, ?h22⟩) (by assumption) ?r22
        case h22 => (intro w hSw; (try dsimp only at hSw); go_simp; try with_reducible rfl)
        try simp only [Act.put, List.setIfInBounds_toArray, List.set_cons_zero, List.set_cons_succ]
        refine wpAnyH_done (by kernel_rfl) ?_ _
        have B3 := hid ((B2H.out).drew)
        clear SB
        go_wp2_with fail
        refine (LV _).mono ?_
        rintro e w3 ⟨rfl, rfl⟩
        go_wp2_with fail
        refine (BK _ B3.out).mono ?_
        rintro e w4 ⟨rfl, B4⟩
        have B4H := hid (B3.out.trans (B4.mono B3.out.size))
        clear B4 BK
        by_cases hbl : L.leaves - L.used < ln
        · have LB := BA w4 B4H.out
          obtain ⟨cb, hcb⟩ : ∃ cb, (L.balance s).1 = cb := ⟨_, rfl⟩
          rw [hcb] at LB
          have HCB := hid hcb
          have HW1 := hid (show L.write s el = if (L.balance s).1 = 0 then (L.balance s).2.1.layEnds (L.balance s).2.2 el else L.balance s by rw [HW0.out, if_neg (by omega), if_pos hbl])
          have KB := hid (LS.balance_keep OK.out hr)
          clear LA BA hcb HW0
          by_cases hc : cb = 0
          · have HW := hid (show L.write s el = (L.balance s).2.1.layEnds (L.balance s).2.2 el by rw [HW1.out, if_pos (by rw [HCB.out]; exact hc)])
            clear HW1
            subst hc
            go_wp2_with fail
            refine LB.mono ?_
            rintro e w5 ⟨rfl, M5, B5, mb5, Y5, Z5⟩
            have HY5 : (L.balance s).2.1.H (L.balance s).2.2 = H := by unfold LS.H; rw [KB.out.leaves, KB.out.n]; exact HHH.out
            have LL := layL_any Y5 KB.out.ok (by have := KB.out.up; omega) ea n cap el ((EH.out.below B4H.out (Nat.le_refl _)).lstep Z5 HBX.out) hn (by rw [HY5]; exact HMM.out)
            obtain ⟨cl, hcl⟩ : ∃ cl, ((L.balance s).2.1.lay (L.balance s).2.2 el).1 = cl := ⟨_, rfl⟩
            rw [hcl] at LL
            have HCL := hid hcl
            have Z5H := hid ((LStep.of_below (M := M) (B := B) B4H.out).trans Z5)
            clear LB Y5 Z5 hcl
            go_wp2_with fail
            refine LL.mono ?_
            rintro e w6 ⟨rfl, M6, B6, mb6, Y6, Z6⟩
            have EN := ends_any Y6 cl
            have Z6H := hid (Z5H.out.trans Z6)
            have HW2 := hid (show L.write s el = (cl, ((L.balance s).2.1.lay (L.balance s).2.2 el).2.1.ends cl, ((L.balance s).2.1.lay (L.balance s).2.2 el).2.2) by rw [HW.out]; unfold LS.layEnds; rw [HCL.out])
            clear LL Y6 Z6
            go_wp2_with fail
            refine EN.mono ?_
            rintro e w7 ⟨rfl, Y7, Z7⟩
            have Y7H := hid Y7
            have Z7H := hid (Z6H.out.trans Z7)
            clear EN Y7 Z7
            go_wp2_with fail
            go_ret
            exact ⟨by rw [HW2.out]; rfl, Went.of (by rw [HW2.out]; exact Y7H.out) Z7H.out⟩
          · have hc1 : (cb != 0) = true := by simpa using hc
            have HW := hid (show L.write s el = L.balance s by rw [HW1.out, if_neg (by rw [HCB.out]; exact hc)])
            clear HW1
            go_wp2_with fail
            refine LB.mono ?_
            rintro e w5 ⟨rfl, W5⟩
            have W5H := hid (W5.after (LStep.of_below (M := M) (B := B) B4H.out))
            clear LB W5
            go_wp2_with fail
            go_ret
            exact ⟨by rw [HW.out, HCB.out]; rfl, by rw [HW.out]; exact W5H.out⟩
        · have hbl2 : ln ≤ L.leaves - L.used := by omega
          have LL := LA w4 B4H.out
          obtain ⟨cl, hcl⟩ : ∃ cl, (L.lay s el).1 = cl := ⟨_, rfl⟩
          rw [hcl] at LL
          have HW := hid (show L.write s el = (cl, (L.lay s el).2.1.ends cl, (L.lay s el).2.2) by rw [HW0.out, if_neg (by omega), if_neg (by omega)]; unfold LS.layEnds; rw [hcl])
          have L4 := hid (LStep.of_below (M := M) (B := B) B4H.out)
          clear LA BA HW0 hcl
          go_wp2_with fail
          refine LL.mono ?_
          rintro e w6 ⟨rfl, M6, B6, mb6, Y6, Z6⟩
          have EN := ends_any Y6 cl
          have Z6H := hid (L4.out.trans Z6)
          clear LL Y6 Z6
          go_wp2_with fail
          refine EN.mono ?_
          rintro e w7 ⟨rfl, Y7, Z7⟩
          have Y7H := hid Y7
          have Z7H := hid (Z6H.out.trans Z7)
          clear EN Y7 Z7
          go_wp2_with fail
          go_ret
          exact ⟨by rw [HW.out]; rfl, Went.of (by rw [HW.out]; exact Y7H.out) Z7H.out⟩

end Go.Proofs.YtleoelhhndeheaaGreat

/- package ledger: Open -/
open Go Go.RowKit
namespace Go.Proofs.YtleoelhhndeheaaGreat

theorem DrumAt.now_ok {w : World} {M : Dom} {d : Nat} {s : DS} (h : DrumAt w M d s) : ∀ k, k < s.n → (s.now k).length = 96 ∧ IsBytes (s.now k) := by
  obtain ⟨p, _, h⟩ := h
  intro k hk
  obtain ⟨hs, _, h2⟩ := h.now.row
  obtain ⟨v, _, a, c, _, _, h5, _, h6, _⟩ := h2 k hk
  exact ⟨h5, h6⟩
/-- the tracks are tracks -/
def DS.Wf (s : DS) : Prop := ∀ k, k < s.n → (s.now k).length = 96 ∧ IsBytes (s.now k)
theorem bestK_ok {s : DS} (wf : s.Wf) (hn : 2 ≤ s.n) : ∀ k, k ≤ 2 → (bestK s k).1 ≠ 0 → (0 < (bestK s k).1 ∧ (bestK s k).1 < 4294967296) ∧ 5 ≤ (bestK s k).2 ∧ (bestK s k).2 + 4 ≤ s.n
  | 0, _, h => absurd rfl h
  | k + 1, hk, h => by
    by_cases hc : isCover s k = true ∧ (bestK s k).1 < num (cut (s.now k) 0 4)
    · have e : bestK s (k + 1) = (num (cut (s.now k) 0 4), num (cut (s.now k) 4 2)) := by show better s k (bestK s k) = _; unfold better; rw [if_pos hc]
      rw [e]
      have h1 := hc.1
      unfold isCover mayC at h1
      simp only [Bool.and_eq_true, decide_eq_true_eq] at h1
      have h2 := num_bd (cut_bytes (wf k (by omega)).2 0 4) (by unfold cut; simp; omega)
      exact ⟨⟨h1.1.1, h2.2⟩, h1.1.2.1, by show num _ + 4 ≤ _; omega⟩
    · have e : bestK s (k + 1) = bestK s k := by show better s k (bestK s k) = _; unfold better; rw [if_neg hc]
      rw [e] at h ⊢
      exact bestK_ok wf hn k (by omega) h
theorem readC_ok {s : DS} (wf : s.Wf) (hn : 2 ≤ s.n) (h : (readC s).1 ≠ 0) : (0 < (readC s).1 ∧ (readC s).1 < 4294967296) ∧ 5 ≤ (readC s).2 ∧ (readC s).2 + 4 ≤ s.n := bestK_ok wf hn 2 (by omega) h
theorem parseE_bytes : ∀ (n : Nat) (b : List Int), IsBytes b → ∀ x ∈ parseE n b, IsBytes x.2
  | 0, _, _, x, hx => by cases hx
  | n + 1, b, hb, x, hx => by
    unfold parseE at hx
    split at hx
    · rcases List.mem_cons.1 hx with rfl | hx
      · exact cut_bytes hb _ _
      · exact parseE_bytes n _ (hb.drop 98) x hx
    · cases hx
theorem wholeE_bytes {ls : List (List Int)} {r no homes : Int} (h : ∀ zs ∈ ls, IsBytes zs) : ∀ x ∈ wholeE ls r no homes, IsBytes x.2 := by
  intro x hx
  unfold wholeE at hx
  split at hx
  · exact parseE_bytes _ _ ((joinB_bytes (fun z hz => h z (List.mem_of_mem_take hz))).drop 2) x hx
  · cases hx
theorem readL_ok {r homes : Int} : ∀ (f : Nat) (ls : List (List Int)) (no : Int) (T : Tkn), (∀ zs ∈ ls, IsBytes zs) → (∀ x zs, T x = some zs → (0 ≤ x ∧ x < homes) ∧ zs.length = 96 ∧ IsBytes zs) →
    ∀ x zs, readL r homes f ls no T x = some zs → (0 ≤ x ∧ x < homes) ∧ zs.length = 96 ∧ IsBytes zs
  | 0, _, _, _, _, hT => hT
  | f + 1, ls, no, T, hb, hT => by
    intro x zs h
    have h : (if wholeN ls r no homes = 0 then T else readL r homes f (ls.drop (wholeN ls r no homes)) (no + 1) (putL T (wholeE ls r no homes))) x = some zs := h
    split at h
    · exact hT x zs h
    · refine readL_ok f _ _ _ (fun z hz => hb z (List.mem_of_mem_drop hz)) (fun y ys hy => ?_) x zs h
      rcases putL_get hy with hy | hy
      · exact hT y ys hy
      · have h1 := wholeE_mem _ hy
        have h2 := wholeE_bytes hb _ hy
        exact ⟨⟨h1.1, h1.2.1⟩, h1.2.2, h2⟩
theorem opened_ok {s : DS} (wf : s.Wf) (hn : 2 ≤ s.n) (hn2 : s.n ≤ 4096) (h : (readC s).1 ≠ 0) : (openedL s).Ok s ∧ ({ openedL s with taken := fun _ => none } : LS).Ok s := by
  obtain ⟨h1, h2⟩ := readC_ok wf hn h
  have hlv : ∀ zs ∈ s.leavesOf (readC s).2, IsBytes zs := fun zs hz => by
    obtain ⟨k, hk, rfl⟩ := List.mem_map.1 hz
    have := List.mem_range.1 hk
    exact (wf _ (by omega)).2
  have hk := readL_ok (r := (readC s).1) (homes := (s.n : Int) - (2 + (readC s).2)) ((readC s).2.toNat + 1) (s.leavesOf (readC s).2) 1 (fun _ => none) hlv (fun x zs h => by cases h)
  refine ⟨⟨hn2, ⟨by show 0 ≤ (readC s).1; omega, by show (readC s).1 < _; omega⟩, h2, ⟨Int.le_refl _, by show 0 ≤ (readC s).2; omega⟩, ⟨Int.le_refl _, by show (0 : Int) < _; omega⟩, fun x hx => ?_, fun x zs hx => (hk x zs hx).2⟩,
    ⟨hn2, ⟨by show 0 ≤ (readC s).1; omega, by show (readC s).1 < _; omega⟩, h2, ⟨Int.le_refl _, by show 0 ≤ (readC s).2; omega⟩, ⟨Int.le_refl _, by show (0 : Int) < _; omega⟩, (fun x hx => by cases hx), (fun x zs hx => by cases hx)⟩⟩
  obtain ⟨zs, hz⟩ := Option.isSome_iff_exists.1 hx
  exact (hk x zs hz).1
theorem openL_of {s : DS} (hb : s.broken = false) (h : (readC s).1 ≠ 0) : s.openL = (openedL s).goHome s := by unfold DS.openL; rw [hb, if_neg h]; rfl

abbrev none' : Nat → Prop := fun _ => False
def OpenAns (w : World) (M : Dom) (d : Nat) (s : DS) (e : Ending) (w' : World) : Prop :=
  (s.openL.1 = 0 ∧ ∃ M' B' l mb, e = .returned (.tuple #[.pointer (some ⟨l, 0, none⟩), .int .i64 0]) ∧ Sys w' M' B' d l mb s.openL.2.2 s.openL.2.1 ∧ LStep M none' w M' B' w') ∨
    (s.openL.1 ≠ 0 ∧ ∃ M', e = .returned (.tuple #[.pointer none, .int .i64 s.openL.1]) ∧ DrumAt w' M' d s.openL.2.2 ∧ LStep M none' w M' none' w')
theorem LStep.forget {M M' : Dom} {B B' : Nat → Prop} {w w' : World} (k : LStep M B w M' B' w') : LStep M B w M' none' w' := ⟨k.ext, k.new, fun _ h => h.elim, k.newX, k.oldX⟩
/-- a new ledger on a drum -/
theorem Sys.made {w w' : World} {M : Dom} {d l g : Nat} {s : DS} (h : DrumAt w M d s) (k : Below w.heap.size w w') (hg : w.heap.size ≤ g ∧ g < w'.heap.size) (hl : w.heap.size ≤ l ∧ l < w'.heap.size) (hm : w'.heap[g]? = some (.map #[] 0)) {L : LS}
    (ho : w'.heap[l]? = some (.cells (ledCells d g L) 122 (0, 0))) (ht : L.taken = fun _ => none) :
    Sys w' (M.addX fun q => q = l ∨ q = g) (fun q => q = l ∨ q = g) d l g s L ∧ LStep M none' w (M.addX fun q => q = l ∨ q = g) (fun q => q = l ∨ q = g) w' := by
  have hF : ∀ q, (q = l ∨ q = g) → w.heap.size ≤ q ∧ q < w'.heap.size := fun q hq => hq.elim (fun e => e ▸ hl) (fun e => e ▸ hg)
  refine ⟨⟨h.addX k hF, ho, ⟨⟨fun _ => none, ?_, fun x => .inl ⟨rfl, by rw [ht]⟩⟩, fun x hx => by rw [ht] at hx; cases hx⟩, .inl rfl, .inr rfl, fun q hq => ⟨.inr hq, fun hm => by have := h.ml _ hm; have := hF q hq; omega⟩, fun q hq => (hF q hq).2⟩, ?_⟩
  · have : IMap w' g 0 (fun _ => none) := ⟨.map [], ⟨#[], 0, hm, ⟨by simp, Go.MapKept.stamped_empty 0, by simp⟩, Nat.le_refl _, rfl⟩, fun x => rfl, fun x v h => by cases h⟩
    exact this.small (fun x hx => by cases hx)
  · exact ⟨Ext.of_below k _, fun _ h => .inl h, fun q hq => .inr (hF q hq).1, fun q hq => hq.elim .inl (fun e => .inr (hF q e).1), fun q hq => .inl hq⟩

set_option maxRecDepth 100000 in
set_option maxHeartbeats 8000000 in
theorem open_any {w : World} {M : Dom} {d : Nat} {s : DS} (h : DrumAt w M d s) (hn : 2 ≤ s.n) (hn2 : s.n ≤ 4096) (hu : s.up.length < 300000000) :
    Calls Tryz.prog 48 #[.pointer (some ⟨d, 0, none⟩)] w (OpenAns w M d s) := by
  have DH := hid h
  obtain ⟨br, hbr⟩ : ∃ br, s.broken = br := ⟨_, rfl⟩
  cases br with
  | true =>
    have RD := read_down h hbr hn
    have HO := hid (show s.openL = (4, openedL s, s) by unfold DS.openL; rw [hbr]; rfl)
    clear h hbr
    go_enter Tryz.func48, Tryz.ntmps48
    go_wp2_with fail
    refine RD.mono ?_
    rintro e w1 ⟨rfl, B1⟩
    have B2 := hid (B1.alloc B1.size (.cells #[.int .i64 0, .int .i64 0] 120))
    clear RD B1
    go_wp2_with fail
    go_ret2
    exact .inr ⟨by rw [HO.out]; exact (show (4 : Int) ≠ 0 by decide), M, by rw [HO.out]; rfl, by rw [HO.out]; exact DH.out.below B2.out, LStep.of_below B2.out⟩
  | false =>
    have RD := read_up h hbr hn
    by_cases hz : (readC s).1 = 0
    · have HO := hid (show s.openL = (11, openedL s, s) by unfold DS.openL; rw [hbr, if_pos hz]; rfl)
      have hc : readCode s = 11 := by unfold readCode; rw [if_pos hz]
      rw [readC_zero hz, hc] at RD
      simp only at RD
      clear h hbr hz hc
      go_enter Tryz.func48, Tryz.ntmps48
      go_wp2_with fail
      refine RD.mono ?_
      rintro e w1 ⟨rfl, B1⟩
      have B2 := hid (B1.alloc B1.size (.cells #[.int .i64 0, .int .i64 0] 120))
      clear RD B1
      go_wp2_with fail
      go_ret2
      exact .inr ⟨by rw [HO.out]; exact (show (11 : Int) ≠ 0 by decide), M, by rw [HO.out]; rfl, by rw [HO.out]; exact DH.out.below B2.out, LStep.of_below B2.out⟩
    · obtain ⟨ok1, ok0⟩ := opened_ok h.now_ok hn hn2 hz
      have hc : readCode s = 0 := by unfold readCode; rw [if_neg hz]
      rw [hc] at RD
      have HO := hid (openL_of hbr hz)
      obtain ⟨r, hr⟩ : ∃ r, (readC s).1 = r := ⟨_, rfl⟩
      obtain ⟨lv, hlv⟩ : ∃ lv, (readC s).2 = lv := ⟨_, rfl⟩
      rw [hr, hlv] at RD
      obtain ⟨L0, hL0⟩ : ∃ L0 : LS, ({ openedL s with taken := fun _ => none } : LS) = L0 := ⟨_, rfl⟩
      have hrd : L0.round = r := by rw [← hL0]; exact hr
      have hlv2 : L0.leaves = lv := by rw [← hL0]; exact hlv
      have hob : ledCells d (w.heap.size + 1) L0 = #[.pointer (some ⟨d, 0, none⟩), .int .i64 r, .int .i64 lv, .int .i64 0, .int .i64 0, .map (some (w.heap.size + 1)), .bool false] := by
        rw [← hL0, ← hr, ← hlv]; rfl
      have OK1 := hid ok1
      have OK0 := hid (show L0.Ok s by rw [← hL0]; exact ok0)
      have HBR := hid hbr
      have hmm := @run_makeMap Tryz.prog
      have LCS := hid (fun g : Nat => (show ledCells d g L0 = #[.pointer (some ⟨d, 0, none⟩), .int .i64 r, .int .i64 lv, .int .i64 0, .int .i64 0, .map (some g), .bool false] by rw [← hL0, ← hr, ← hlv]; rfl))
      have L0T := hid (show L0.taken = fun _ => none by rw [← hL0])
      have L1 := hid (show { L0 with taken := readL L0.round (L0.H s) (L0.leaves.toNat + 1) (s.leavesOf L0.leaves) 1 L0.taken } = openedL s by
        have hH : ((L0.H s : Nat) : Int) = (s.n : Int) - (2 + (readC s).2) := by
          have h5 := ok0.l
          have h6 : ({ openedL s with taken := fun _ => none } : LS).leaves = (readC s).2 := rfl
          rw [h6] at h5
          unfold LS.H
          rw [hlv2, ← hlv]
          omega
        rw [hH, ← hL0]
        rfl)
      clear h hbr hz hc ok1 ok0 hr hlv hL0 hrd hlv2 hob
      go_enter Tryz.func48, Tryz.ntmps48
      go_wp2_with fail
      refine RD.mono ?_
      rintro e w1 ⟨rfl, B1⟩
      have B1H := hid B1
      clear RD B1
      have B3 : Below w.heap.size w (((w1.alloc (.cells #[.int .i64 r, .int .i64 lv] 120)).alloc (.map #[] 0)).alloc (.cells #[.pointer (some ⟨d, 0, none⟩), .int .i64 r, .int .i64 lv, .int .i64 0, .int .i64 0, .map (some (w1.heap.size + 1)), .bool false] 122)) :=
        ((B1H.out.alloc B1H.out.size _).alloc (by have := B1H.out.size; simp; omega) _).alloc (by have := B1H.out.size; simp; omega) _
      have SM := Sys.made (l := w1.heap.size + 1 + 1) (g := w1.heap.size + 1) (L := L0) DH.out B3 (by have := B1H.out.size; simp; omega) (by have := B1H.out.size; simp; omega) (blk_old _ (blk_at _ (by simp))) (by rw [LCS.out]; exact blk_at _ (by simp)) L0T.out
      have RA := readAll_any SM.1 OK0.out HBR.out
      have SMH := hid SM.2
      clear SM B3
      go_wp2_with fail
      refine RA.mono ?_
      rintro e w4 ⟨rfl, Y4, Z4⟩
      rw [L1.out] at Y4
      have GH := goHome_any Y4 OK1.out (by omega)
      have Z4H := hid (SMH.out.trans Z4)
      obtain ⟨cg, hcg⟩ : ∃ cg, ((openedL s).goHome s).1 = cg := ⟨_, rfl⟩
      rw [hcg] at GH
      have HCG := hid hcg
      clear RA Y4 Z4 hcg
      by_cases hc : cg = 0
      · subst hc
        go_wp2_with fail
        refine GH.mono ?_
        rintro e w5 ⟨rfl, M5, B5, mb5, Y5, Z5⟩
        have Y5H := hid Y5
        have Z5H := hid (Z4H.out.trans Z5)
        clear GH Y5 Z5
        go_wp2_with fail
        go_ret2
        exact .inl ⟨by rw [HO.out]; exact HCG.out, M5, B5, _, mb5, rfl, by rw [HO.out]; exact Y5H.out, Z5H.out⟩
      · have hc1 : (cg != 0) = true := by simpa using hc
        have HNE := hid (show s.openL.1 ≠ 0 by rw [HO.out, HCG.out]; exact hc)
        go_wp2_with fail
        refine GH.mono ?_
        rintro e w5 ⟨rfl, M5, B5, mb5, Y5, Z5⟩
        have Y5H := hid Y5
        have Z5H := hid (Z4H.out.trans Z5)
        clear GH Y5 Z5
        go_wp2_with fail
        go_ret2
        exact .inr ⟨HNE.out, M5, by rw [HO.out, HCG.out]; rfl, by rw [HO.out]; exact Y5H.out.drum, Z5H.out.forget⟩

end Go.Proofs.YtleoelhhndeheaaGreat
