/- package ledger: whole -/
import Derived.Test.YtleoelhhndeheaaGreatLedE
import Derived.Test.YtleoelhhndeheaaGreatLedC
open Go Go.RowKit
namespace Go.Proofs.YtleoelhhndeheaaGreat

theorem take_eq_step2 {xs ys : List (List Int)} {k : Nat} {x : List Int} (h : xs.take k = ys.take k) (hx : xs[k]? = some x) (hy : ys[k]? = some x) : xs.take (k + 1) = ys.take (k + 1) := by
  rw [List.take_add_one, List.take_add_one, h, hx, hy]

set_option maxRecDepth 100000 in
set_option maxHeartbeats 2000000 in
theorem equalFunc_any (a b : Option Addr) (n m ca cb : Nat) (xs ys : List (List Int)) (N N' : Nat → Prop) (w : World) (ha : LvRow w N a n xs) (hb : LvRow w N' b m ys) (hn : n ≤ 1000000) :
    Calls Tryz.prog 116 #[.slice a n ca, .slice b m cb, .func (.func 40) #[] #[]] w fun e w' => e = .returned (.bool (decide (xs = ys))) ∧ Below w.heap.size w w' := by
  have HA := hid ha
  have HB := hid hb
  have HLA := hid ha.len
  have HLB := hid hb.len
  by_cases hl : n = m
  · subst hl
    have hixa := fun k (hk : k < n) => ha.idx (cap := ca) hk
    have hixb := fun k (hk : k < n) => hb.idx (cap := cb) hk
    clear ha hb
    go_enter Tryz.func116, Tryz.ntmps116
    go_wp2_with fail
    go_loopw [17] (fun i wr => ∃ k : Nat, k ≤ n ∧ i = .int .i64 k ∧ Hid (xs.take k = ys.take k) ∧ Below w.heap.size w wr) (fun i _ => n - (intOf i).toNat)
    case atStart => exact ⟨0, by omega, rfl, hid rfl, Below.refl _ _⟩
    case round =>
      obtain ⟨k, hk, rfl, hE, BR⟩ := hrel
      by_cases hlt : k < n
      · have hixa := hixa k hlt
        have hixb := hixb k hlt
        obtain ⟨x, hx⟩ : ∃ x, xs[k]? = some x := ⟨_, List.getElem?_eq_getElem (by rw [HLA.out]; exact hlt)⟩
        obtain ⟨y, hy⟩ : ∃ x, ys[k]? = some x := ⟨_, List.getElem?_eq_getElem (by rw [HLB.out]; exact hlt)⟩
        obtain ⟨ab, ac, ea, ra, la, za, -⟩ := (HA.out.below BR (Nat.le_refl _)).cell k _ hx
        obtain ⟨bb, bc, eb, rb, lb, zb, -⟩ := (HB.out.below BR (Nat.le_refl _)).cell k _ hy
        have EQ := equalB_any (some ab) (some bb) 96 96 ac bc x y wr ra rb la lb (by decide) za zb
        have HX := hid hx
        have HY := hid hy
        clear hx hy ra rb la lb za zb
        by_cases hc : x = y
        · subst hc
          rw [decide_eq_true (rfl : x = x)] at EQ
          go_wp2_with fail
          refine EQ.mono ?_
          rintro e w1 ⟨rfl, q, rfl⟩
          clear EQ
          go_wp2_with fail
          go_roundw
          case rel => exact ⟨k + 1, by omega, by go_num, hid (take_eq_step2 hE.out HX.out HY.out), Below.drewN BR q⟩
          case measure => simp [intOf]; omega
        · rw [decide_eq_false hc] at EQ
          have HN := hid (show decide (xs = ys) = false by
            rw [decide_eq_false_iff_not]
            rintro rfl
            have := HX.out.symm.trans HY.out
            cases this
            exact hc rfl)
          clear hc
          go_wp2_with fail
          refine EQ.mono ?_
          rintro e w1 ⟨rfl, q, rfl⟩
          clear EQ
          go_wp2_with fail
          go_ret
          exact ⟨ret_bool HN.out.symm, Below.drewN BR q⟩
      · obtain rfl : k = n := by omega
        have HN := hid (show decide (xs = ys) = true by
          rw [decide_eq_true_eq]
          have := hE.out
          rwa [List.take_of_length_le (by rw [HLA.out]; exact Nat.le_refl _), List.take_of_length_le (by rw [HLB.out]; exact Nat.le_refl _)] at this)
        go_wp2_with fail
        go_ret
        exact ⟨ret_bool HN.out.symm, BR⟩
  · have HN := hid (show decide (xs = ys) = false by
      rw [decide_eq_false_iff_not]
      rintro rfl
      exact hl (HLA.out.symm.trans HLB.out))
    have hne : ((n : Int) != (m : Int)) = true := by simp; omega
    have hne2 : ¬ ((n : Int) = (m : Int)) := by omega
    clear ha hb
    go_enter Tryz.func116, Tryz.ntmps116
    go_wp2_with fail
    go_ret
    exact ⟨ret_bool HN.out.symm, Below.refl _ _⟩

theorem parseE_length : ∀ (n : Nat) (b : List Int), (parseE n b).length ≤ n
  | 0, _ => Nat.le_refl _
  | n + 1, b => by
    unfold parseE
    split
    · have := parseE_length n (b.drop 98)
      simp; omega
    · exact Nat.zero_le _
theorem num_bd2' {zs : List Int} (h : IsBytes zs) (i : Nat) : 0 ≤ num (cut zs i 2) ∧ num (cut zs i 2) < 65536 := num_bd2 (cut_bytes h i 2) (by unfold cut; simp; omega)
theorem entriesL_length {ls : List (List Int)} (h : ∀ zs ∈ ls, IsBytes zs) : (entriesL ls).length < 65536 := by
  have := parseE_length (num (cut (joinB ls) 0 2)).toNat ((joinB ls).drop 2)
  have h2 := num_bd2' (joinB_bytes h) 0
  unfold entriesL
  omega

set_option maxRecDepth 100000 in
set_option maxHeartbeats 4000000 in
theorem whole_any (a : Option Addr) (n cap : Nat) (ls : List (List Int)) (N : Nat → Prop) (r no homes : Int) (w : World) (h : LvRow w N a n ls) (hcap : n ≤ cap) (hn : n ≤ 100000) (hr : 0 ≤ r ∧ r < 281474976710656) (hno : 0 ≤ no ∧ no < 281474976710656) (hh : 0 ≤ homes ∧ homes ≤ 1000000) :
    Calls Tryz.prog 101 #[.slice a n cap, .int .i64 r, .int .i64 no, .int .i64 homes] w fun e w' => ∃ v, e = .returned (.tuple #[v, .int .i64 (wholeN ls r no homes : Nat)]) ∧ EntsOwn w' w.heap.size v (wholeE ls r no homes) ∧ Below w.heap.size w w' := by
  have HL := hid h.len
  have NO := hid (show isWhole ls r no homes = false → wholeN ls r no homes = 0 ∧ wholeE ls r no homes = [] from fun e => by unfold wholeN wholeE; rw [e]; exact ⟨rfl, rfl⟩)
  have HW := hid (show isWhole ls r no homes = (decide (0 < ls.length ∧ 0 < tells ls ∧ tells ls ≤ ls.length) && (mayE (entriesL (ls.take (tells ls))) homes && decide (postL r no (entriesL (ls.take (tells ls))) = ls.take (tells ls)))) from rfl)
  by_cases h0 : n = 0
  · subst h0
    obtain ⟨z1, z2⟩ := NO.out (by rw [HW.out, decide_eq_false (by rw [HL.out]; omega)]; rfl)
    have Z1 := hid z1
    have Z2 := hid z2
    clear z1 z2 h
    go_enter Tryz.func101, Tryz.ntmps101
    go_wp2_with fail
    go_ret2
    exact ⟨_, by rw [Z1.out]; rfl, by rw [Z2.out]; exact EntsOwn.nil _ _, Below.refl _ _⟩
  · obtain ⟨x0, hx⟩ : ∃ x, ls[0]? = some x := ⟨_, List.getElem?_eq_getElem (by rw [HL.out]; omega)⟩
    have HH := hid h
    have hix0 : ∀ w', (Instr.indexAt 46 (.slice a n cap) (.int .i64 0)).run Tryz.prog w' = .ok (.pointer (some ⟨sB a, sO a, none⟩)) w' := fun w' => h.idx (k := 0) (by omega) w'
    obtain ⟨b, c, e1, rz, hz96, hzb, hc96, -⟩ := h.cell 0 _ hx
    rw [Nat.add_zero] at e1
    obtain ⟨bb, bo, rfl⟩ := rz.form (by rw [B8_length, hz96]; decide)
    have htl : tells ls = (num (cut x0 10 2)).toNat := by
      unfold tells
      cases ls with
      | nil => simp at hx
      | cons y ys => simp at hx; subst hx; rfl
    obtain ⟨t, ht, ht2⟩ : ∃ t : Nat, num (cut x0 10 2) = (t : Int) ∧ t < 65536 := by
      have := num_bd2' hzb 10
      exact ⟨(num (cut x0 10 2)).toNat, by omega, by omega⟩
    have NB := lnumber_any (some ⟨bb, bo + 10, none⟩) 2 (c - 10) (cut x0 10 2) w (rz.cut 10 2) (cut_length (by omega)) (by decide) (cut_bytes hzb 10 2)
    rw [ht] at NB htl
    have HT := hid (show tells ls = t by rw [htl]; rfl)
    have q1 : (12 : Int) ≤ (c : Int) := by omega
    have q2 : ¬ (c = 10) := by omega
    clear hx rz htl ht h
    by_cases ht0 : t = 0
    · subst ht0
      obtain ⟨z1, z2⟩ := NO.out (by rw [HW.out, HT.out, decide_eq_false (by omega)]; rfl)
      have Z1 := hid z1
      have Z2 := hid z2
      clear z1 z2
      go_enter Tryz.func101, Tryz.ntmps101
      go_wp2_with fail
      refine NB.mono ?_
      rintro e w1 ⟨rfl, rfl⟩
      clear NB
      go_wp2_with fail
      go_ret2
      exact ⟨_, by rw [Z1.out]; rfl, by rw [Z2.out]; exact EntsOwn.nil _ _, Below.refl _ _⟩
    · have ht0' : ¬ ((t : Int) = 0) := by omega
      by_cases htn : n < t
      · obtain ⟨z1, z2⟩ := NO.out (by rw [HW.out, HT.out, decide_eq_false (by rw [HL.out]; omega)]; rfl)
        have Z1 := hid z1
        have Z2 := hid z2
        clear z1 z2
        go_enter Tryz.func101, Tryz.ntmps101
        go_wp2_with fail
        refine NB.mono ?_
        rintro e w1 ⟨rfl, rfl⟩
        clear NB
        go_wp2_with fail
        go_ret2
        exact ⟨_, by rw [Z1.out]; rfl, by rw [Z2.out]; exact EntsOwn.nil _ _, Below.refl _ _⟩
      · have HK := hid (HH.out.take t (by omega))
        have EN := entries_any a t cap (ls.take t) N w HK.out (by omega) (by omega)
        obtain ⟨l, hl⟩ : ∃ l, entriesL (ls.take t) = l := ⟨_, rfl⟩
        have hll : l.length < 65536 := by rw [← hl]; exact entriesL_length HK.out.bytes.1
        rw [hl] at EN
        have HLE := hid hl
        have HW2 := hid (show isWhole ls r no homes = (mayE l homes && decide (postL r no l = ls.take t)) by
          rw [HW.out, HT.out, decide_eq_true (by rw [HL.out]; omega), hl, Bool.true_and])
        have q3 : (t : Int) ≤ (cap : Int) := by omega
        have q4 : ¬ (n : Int) < (t : Int) := by omega
        clear hl
        go_enter Tryz.func101, Tryz.ntmps101
        go_wp2_with fail
        refine NB.mono ?_
        rintro e w1 ⟨rfl, rfl⟩
        clear NB
        go_wp2_with fail
        refine EN.mono ?_
        rintro e w1 ⟨v, rfl, EO, B1⟩
        obtain ⟨ea, ec, rfl, EA, hec⟩ := EO.out (N := fun q => q < w.heap.size) (fun q hq _ => hq)
        have EAH := hid EA
        have EOH := hid EO
        have s1 := B1.size
        obtain ⟨nl, hnl⟩ : ∃ nl, l.length = nl := ⟨_, rfl⟩
        rw [hnl] at hll hec EA
        have EA1 := hid EA
        have OKL := hid EO.ok
        have HNL := hid hnl
        clear EN EO EA
        have HK1 := hid (HK.out.below B1 (Nat.le_refl _))
        have SB : ∀ W, Below w1.heap.size w1 W → Below w1.heap.size w1 W ∧ True := fun W h => ⟨h, trivial⟩
        obtain ⟨my, hmy⟩ : ∃ my, mayE l homes = my := ⟨_, rfl⟩
        have MA := fun W (B : Below w1.heap.size w1 W) => may_any ea nl ec l (fun q => q < w.heap.size) homes W (EA1.out.below B (Nat.le_refl _)) (by omega) hh
        rw [hmy] at MA
        have HMY := hid hmy
        cases my with
        | false =>
          obtain ⟨z1, z2⟩ := NO.out (by rw [HW2.out, hmy]; rfl)
          have Z1 := hid z1
          have Z2 := hid z2
          clear z1 z2 hmy
          rw [HNL.out]
          go_wp2_with fail
          refine wp_region_held_drew (S := fun w' => Below w1.heap.size w1 w' ∧ True) (by kernel_rfl) (SB _ ((Below.refl w1.heap.size w1).drew)) (fun hHeld => ?_)
          refine wpAnyH_take (i := 0) (v := ?v1) (by simp only [List.getElem?_toArray, List.getElem?_cons_zero]; rfl) (by kernel_rfl) (by kernel_rfl) (by kernel_rfl) (by exact fun _ _ _ h => h) (Or.inl ⟨by rfl, ?h1⟩) (by assumption) ?r1
          case h1 => (intro w hSw; (try dsimp only at hSw); go_simp; try with_reducible rfl)
          try simp only [Act.put, List.setIfInBounds_toArray, List.set_cons_zero, List.set_cons_succ]
          refine wpAnyH_take (i := 1) (v := ?v2) (by simp only [List.getElem?_toArray, List.getElem?_cons_zero, List.getElem?_cons_succ]; rfl) (by kernel_rfl) (by kernel_rfl) (by kernel_rfl) (by exact fun _ _ _ h => h) (Or.inl ⟨by rfl, ?h2⟩) (by assumption) ?r2
          case h2 => (intro w hSw; (try dsimp only at hSw); go_simp; try with_reducible rfl)
          try simp only [Act.put, List.setIfInBounds_toArray, List.set_cons_zero, List.set_cons_succ]
          refine wpAnyH_ready (rs := [2]) (by kernel_rfl) (by simp) ?_
          refine (AllReadyH.cons (by simp only [List.getElem?_toArray, List.getElem?_cons_zero, List.getElem?_cons_succ]; rfl) (fun K hK => ?_) AllReadyH.nil)
          go_simp
          go_at_call 68
          refine (MA _ ((Below.refl w1.heap.size w1).drew)).mono ?_
          rintro e wq3 ⟨rfl, C3⟩
          have BB3 := ((Below.refl w1.heap.size w1).drew).trans (C3.mono (Below.size ((Below.refl w1.heap.size w1).drew)))
          refine hK.out _ _ (SB _ BB3) (fun hH4 => ?_)
          clear hK
          try simp only [Act.put, List.setIfInBounds_toArray, List.set_cons_zero, List.set_cons_succ]
          refine wpAnyH_take (i := 3) (v := ?v5) (by simp only [List.getElem?_toArray, List.getElem?_cons_zero, List.getElem?_cons_succ]; rfl) (by kernel_rfl) (by kernel_rfl) (by kernel_rfl) (by exact fun _ _ _ h => h) (Or.inl ⟨by rfl, ?h5⟩) (by assumption) ?r5
          case h5 => (intro w hSw; (try dsimp only at hSw); go_simp; try with_reducible rfl)
          try simp only [Act.put, List.setIfInBounds_toArray, List.set_cons_zero, List.set_cons_succ]
          refine wpAnyH_take (i := 4) (v := ?v6) (by simp only [List.getElem?_toArray, List.getElem?_cons_zero, List.getElem?_cons_succ]; rfl) (by kernel_rfl) (by kernel_rfl) (by kernel_rfl) (by exact fun _ _ _ h => h) (Or.inl ⟨by rfl, ?h6⟩) (by assumption) ?r6
          case h6 => (intro w hSw; (try dsimp only at hSw); go_simp; try with_reducible rfl)
          try simp only [Act.put, List.setIfInBounds_toArray, List.set_cons_zero, List.set_cons_succ]
          refine wpAnyH_take (i := 5) (v := undef) (by simp only [List.getElem?_toArray, List.getElem?_cons_zero, List.getElem?_cons_succ]; rfl) (by kernel_rfl) (by kernel_rfl) (by kernel_rfl) (by exact fun _ _ _ h => h) (Or.inr ⟨by rfl, rfl⟩) (by assumption) ?r7
          try simp only [Act.put, List.setIfInBounds_toArray, List.set_cons_zero, List.set_cons_succ]
          refine wpAnyH_take (i := 6) (v := undef) (by simp only [List.getElem?_toArray, List.getElem?_cons_zero, List.getElem?_cons_succ]; rfl) (by kernel_rfl) (by kernel_rfl) (by kernel_rfl) (by exact fun _ _ _ h => h) (Or.inr ⟨by rfl, rfl⟩) (by assumption) ?r8
          try simp only [Act.put, List.setIfInBounds_toArray, List.set_cons_zero, List.set_cons_succ]
          refine wpAnyH_take (i := 7) (v := undef) (by simp only [List.getElem?_toArray, List.getElem?_cons_zero, List.getElem?_cons_succ]; rfl) (by kernel_rfl) (by kernel_rfl) (by kernel_rfl) (by exact fun _ _ _ h => h) (Or.inr ⟨by rfl, rfl⟩) (by assumption) ?r9
          try simp only [Act.put, List.setIfInBounds_toArray, List.set_cons_zero, List.set_cons_succ]
          refine wpAnyH_take (i := 8) (v := undef) (by simp only [List.getElem?_toArray, List.getElem?_cons_zero, List.getElem?_cons_succ]; rfl) (by kernel_rfl) (by kernel_rfl) (by kernel_rfl) (by exact fun _ _ _ h => h) (Or.inr ⟨by rfl, rfl⟩) (by assumption) ?r10
          try simp only [Act.put, List.setIfInBounds_toArray, List.set_cons_zero, List.set_cons_succ]
          refine wpAnyH_take (i := 9) (v := undef) (by simp only [List.getElem?_toArray, List.getElem?_cons_zero, List.getElem?_cons_succ]; rfl) (by kernel_rfl) (by kernel_rfl) (by kernel_rfl) (by exact fun _ _ _ h => h) (Or.inr ⟨by rfl, rfl⟩) (by assumption) ?r11
          try simp only [Act.put, List.setIfInBounds_toArray, List.set_cons_zero, List.set_cons_succ]
          refine wpAnyH_take (i := 10) (v := undef) (by simp only [List.getElem?_toArray, List.getElem?_cons_zero, List.getElem?_cons_succ]; rfl) (by kernel_rfl) (by kernel_rfl) (by kernel_rfl) (by exact fun _ _ _ h => h) (Or.inr ⟨by rfl, rfl⟩) (by assumption) ?r12
          try simp only [Act.put, List.setIfInBounds_toArray, List.set_cons_zero, List.set_cons_succ]
          refine wpAnyH_take (i := 11) (v := undef) (by simp only [List.getElem?_toArray, List.getElem?_cons_zero, List.getElem?_cons_succ]; rfl) (by kernel_rfl) (by kernel_rfl) (by kernel_rfl) (by exact fun _ _ _ h => h) (Or.inr ⟨by rfl, rfl⟩) (by assumption) ?r13
          try simp only [Act.put, List.setIfInBounds_toArray, List.set_cons_zero, List.set_cons_succ]
          refine wpAnyH_take (i := 12) (v := undef) (by simp only [List.getElem?_toArray, List.getElem?_cons_zero, List.getElem?_cons_succ]; rfl) (by kernel_rfl) (by kernel_rfl) (by kernel_rfl) (by exact fun _ _ _ h => h) (Or.inr ⟨by rfl, rfl⟩) (by assumption) ?r14
          try simp only [Act.put, List.setIfInBounds_toArray, List.set_cons_zero, List.set_cons_succ]
          refine wpAnyH_take (i := 13) (v := undef) (by simp only [List.getElem?_toArray, List.getElem?_cons_zero, List.getElem?_cons_succ]; rfl) (by kernel_rfl) (by kernel_rfl) (by kernel_rfl) (by exact fun _ _ _ h => h) (Or.inr ⟨by rfl, rfl⟩) (by assumption) ?r15
          try simp only [Act.put, List.setIfInBounds_toArray, List.set_cons_zero, List.set_cons_succ]
          refine wpAnyH_take (i := 14) (v := ?v16) (by simp only [List.getElem?_toArray, List.getElem?_cons_zero, List.getElem?_cons_succ]; rfl) (by kernel_rfl) (by kernel_rfl) (by kernel_rfl) (by exact fun _ _ _ h => h) (Or.inl ⟨by rfl, ?h16⟩) (by assumption) ?r16
          case h16 => (intro w hSw; (try dsimp only at hSw); go_simp; try with_reducible rfl)
          try simp only [Act.put, List.setIfInBounds_toArray, List.set_cons_zero, List.set_cons_succ]
          refine wpAnyH_done (by kernel_rfl) ?_ _
          go_wp2_with fail
          go_ret2
          exact ⟨_, by rw [Z1.out]; rfl, by rw [Z2.out]; exact EntsOwn.nil _ _, B1.trans (BB3.mono s1)⟩
        | true =>
          have h0l : 0 < nl := by
            have : mayE l homes = true := hmy
            unfold mayE at this
            rw [Bool.and_eq_true, decide_eq_true_eq, hnl] at this
            exact this.2
          have PA := fun W (B : Below w1.heap.size w1 W) => posting_any r no ea nl ec l (fun q => q < w.heap.size) W (EA1.out.below B (Nat.le_refl _)) (fun x hx => ⟨⟨(OKL.out x hx).1.1, by have := (OKL.out x hx).1.2; omega⟩, (OKL.out x hx).2⟩) h0l (by omega) hr hno
          have hpl : (postL r no l).length ≤ 200000 := by
            unfold postL postN
            rw [List.length_map, List.length_range, hnl, postN_eq h0l]
            omega
          obtain ⟨pl, hpl2⟩ : ∃ pl, (postL r no l).length = pl := ⟨_, rfl⟩
          rw [hpl2] at hpl
          have HPL := hid hpl2
          obtain ⟨dd, hdd⟩ : ∃ dd, decide (postL r no l = ls.take t) = dd := ⟨_, rfl⟩
          have HDD := hid hdd
          clear hmy hpl2 hdd
          rw [HNL.out]
          go_wp2_with fail
          refine wp_region_held_drew (S := fun w' => Below w1.heap.size w1 w' ∧ True) (by kernel_rfl) (SB _ ((Below.refl w1.heap.size w1).drew)) (fun hHeld => ?_)
          refine wpAnyH_take (i := 0) (v := ?v17) (by simp only [List.getElem?_toArray, List.getElem?_cons_zero]; rfl) (by kernel_rfl) (by kernel_rfl) (by kernel_rfl) (by exact fun _ _ _ h => h) (Or.inl ⟨by rfl, ?h17⟩) (by assumption) ?r17
          case h17 => (intro w hSw; (try dsimp only at hSw); go_simp; try with_reducible rfl)
          try simp only [Act.put, List.setIfInBounds_toArray, List.set_cons_zero, List.set_cons_succ]
          refine wpAnyH_take (i := 1) (v := ?v18) (by simp only [List.getElem?_toArray, List.getElem?_cons_zero, List.getElem?_cons_succ]; rfl) (by kernel_rfl) (by kernel_rfl) (by kernel_rfl) (by exact fun _ _ _ h => h) (Or.inl ⟨by rfl, ?h18⟩) (by assumption) ?r18
          case h18 => (intro w hSw; (try dsimp only at hSw); go_simp; try with_reducible rfl)
          try simp only [Act.put, List.setIfInBounds_toArray, List.set_cons_zero, List.set_cons_succ]
          refine wpAnyH_ready (rs := [2]) (by kernel_rfl) (by simp) ?_
          refine (AllReadyH.cons (by simp only [List.getElem?_toArray, List.getElem?_cons_zero, List.getElem?_cons_succ]; rfl) (fun K hK => ?_) AllReadyH.nil)
          go_simp
          go_at_call 68
          refine (MA _ ((Below.refl w1.heap.size w1).drew)).mono ?_
          rintro e wq19 ⟨rfl, C19⟩
          have BB19 := ((Below.refl w1.heap.size w1).drew).trans (C19.mono (Below.size ((Below.refl w1.heap.size w1).drew)))
          refine hK.out _ _ (SB _ BB19) (fun hH20 => ?_)
          clear hK
          try simp only [Act.put, List.setIfInBounds_toArray, List.set_cons_zero, List.set_cons_succ]
          refine wpAnyH_take (i := 3) (v := ?v21) (by simp only [List.getElem?_toArray, List.getElem?_cons_zero, List.getElem?_cons_succ]; rfl) (by kernel_rfl) (by kernel_rfl) (by kernel_rfl) (by exact fun _ _ _ h => h) (Or.inl ⟨by rfl, ?h21⟩) (by assumption) ?r21
          case h21 => (intro w hSw; (try dsimp only at hSw); go_simp; try with_reducible rfl)
          try simp only [Act.put, List.setIfInBounds_toArray, List.set_cons_zero, List.set_cons_succ]
          refine wpAnyH_take (i := 4) (v := ?v22) (by simp only [List.getElem?_toArray, List.getElem?_cons_zero, List.getElem?_cons_succ]; rfl) (by kernel_rfl) (by kernel_rfl) (by kernel_rfl) (by exact fun _ _ _ h => h) (Or.inl ⟨by rfl, ?h22⟩) (by assumption) ?r22
          case h22 => (intro w hSw; (try dsimp only at hSw); go_simp; try with_reducible rfl)
          try simp only [Act.put, List.setIfInBounds_toArray, List.set_cons_zero, List.set_cons_succ]
          refine wpAnyH_take (i := 5) (v := ?v23) (by simp only [List.getElem?_toArray, List.getElem?_cons_zero, List.getElem?_cons_succ]; rfl) (by kernel_rfl) (by kernel_rfl) (by kernel_rfl) (by exact fun _ _ _ h => h) (Or.inl ⟨by rfl, ?h23⟩) (by assumption) ?r23
          case h23 => (intro w hSw; (try dsimp only at hSw); go_simp; try with_reducible rfl)
          try simp only [Act.put, List.setIfInBounds_toArray, List.set_cons_zero, List.set_cons_succ]
          refine wpAnyH_take (i := 6) (v := ?v24) (by simp only [List.getElem?_toArray, List.getElem?_cons_zero, List.getElem?_cons_succ]; rfl) (by kernel_rfl) (by kernel_rfl) (by kernel_rfl) (by exact fun _ _ _ h => h) (Or.inl ⟨by rfl, ?h24⟩) (by assumption) ?r24
          case h24 => (intro w hSw; (try dsimp only at hSw); go_simp; try with_reducible rfl)
          try simp only [Act.put, List.setIfInBounds_toArray, List.set_cons_zero, List.set_cons_succ]
          refine wpAnyH_take (i := 7) (v := ?v25) (by simp only [List.getElem?_toArray, List.getElem?_cons_zero, List.getElem?_cons_succ]; rfl) (by kernel_rfl) (by kernel_rfl) (by kernel_rfl) (by exact fun _ _ _ h => h) (Or.inl ⟨by rfl, ?h25⟩) (by assumption) ?r25
          case h25 => (intro w hSw; (try dsimp only at hSw); go_simp; try with_reducible rfl)
          try simp only [Act.put, List.setIfInBounds_toArray, List.set_cons_zero, List.set_cons_succ]
          refine wpAnyH_take (i := 9) (v := ?v26) (by simp only [List.getElem?_toArray, List.getElem?_cons_zero, List.getElem?_cons_succ]; rfl) (by kernel_rfl) (by kernel_rfl) (by kernel_rfl) (by exact fun _ _ _ h => h) (Or.inl ⟨by rfl, ?h26⟩) (by assumption) ?r26
          case h26 => (intro w hSw; (try dsimp only at hSw); go_simp; try with_reducible rfl)
          try simp only [Act.put, List.setIfInBounds_toArray, List.set_cons_zero, List.set_cons_succ]
          refine wpAnyH_take (i := 10) (v := ?v27) (by simp only [List.getElem?_toArray, List.getElem?_cons_zero, List.getElem?_cons_succ]; rfl) (by kernel_rfl) (by kernel_rfl) (by kernel_rfl) (by exact fun _ _ _ h => h) (Or.inl ⟨by rfl, ?h27⟩) (by assumption) ?r27
          case h27 => (intro w hSw; (try dsimp only at hSw); go_simp; try with_reducible rfl)
          try simp only [Act.put, List.setIfInBounds_toArray, List.set_cons_zero, List.set_cons_succ]
          refine wpAnyH_take (i := 11) (v := ?v28) (by simp only [List.getElem?_toArray, List.getElem?_cons_zero, List.getElem?_cons_succ]; rfl) (by kernel_rfl) (by kernel_rfl) (by kernel_rfl) (by exact fun _ _ _ h => h) (Or.inl ⟨by rfl, ?h28⟩) (by assumption) ?r28
          case h28 => (intro w hSw; (try dsimp only at hSw); go_simp; try with_reducible rfl)
          try simp only [Act.put, List.setIfInBounds_toArray, List.set_cons_zero, List.set_cons_succ]
          refine wpAnyH_ready (rs := [8]) (by kernel_rfl) (by simp) ?_
          refine (AllReadyH.cons (by simp only [List.getElem?_toArray, List.getElem?_cons_zero, List.getElem?_cons_succ]; rfl) (fun K hK => ?_) AllReadyH.nil)
          go_simp
          go_at_call 98
          refine (PA _ (BB19)).mono ?_
          rintro e wq29 ⟨v29, rfl, lv29, C29⟩
          obtain ⟨pa29, pc29, rfl, LR29, -⟩ := lv29.out (N := fun q => q < w1.heap.size) (fun q hq _ => Nat.lt_of_lt_of_le hq (Below.size (BB19)))
          have LRH29 := hid LR29
          clear LR29 lv29
          rw [HPL.out] at LRH29 ⊢
          have BB29 := (BB19).trans (C29.mono (Below.size (BB19)))
          refine hK.out _ _ (SB _ BB29) (fun hH30 => ?_)
          clear hK
          try simp only [Act.put, List.setIfInBounds_toArray, List.set_cons_zero, List.set_cons_succ]
          refine wpAnyH_ready (rs := [12]) (by kernel_rfl) (by simp) ?_
          refine (AllReadyH.cons (by simp only [List.getElem?_toArray, List.getElem?_cons_zero, List.getElem?_cons_succ]; rfl) (fun K hK => ?_) AllReadyH.nil)
          have EQ := equalFunc_any pa29 a pl t pc29 cap (postL r no l) (ls.take t) _ N _ (LRH29.out) (HK1.out.below (BB29) (Nat.le_refl _)) (by omega)
          rw [HDD.out] at EQ
          go_simp
          go_at_call 116
          refine (EQ).mono ?_
          rintro e wq31 ⟨rfl, C31⟩
          clear EQ
          have BB31 := (BB29).trans (C31.mono (Below.size (BB29)))
          refine hK.out _ _ (SB _ BB31) (fun hH32 => ?_)
          clear hK
          try simp only [Act.put, List.setIfInBounds_toArray, List.set_cons_zero, List.set_cons_succ]
          refine wpAnyH_take (i := 13) (v := ?v33) (by simp only [List.getElem?_toArray, List.getElem?_cons_zero, List.getElem?_cons_succ]; rfl) (by kernel_rfl) (by kernel_rfl) (by kernel_rfl) (by exact fun _ _ _ h => h) (Or.inl ⟨by rfl, ?h33⟩) (by assumption) ?r33
          case h33 => (intro w hSw; (try dsimp only at hSw); go_simp; try with_reducible rfl)
          try simp only [Act.put, List.setIfInBounds_toArray, List.set_cons_zero, List.set_cons_succ]
          refine wpAnyH_take (i := 14) (v := ?v34) (by simp only [List.getElem?_toArray, List.getElem?_cons_zero, List.getElem?_cons_succ]; rfl) (by kernel_rfl) (by kernel_rfl) (by kernel_rfl) (by exact fun _ _ _ h => h) (Or.inl ⟨by rfl, ?h34⟩) (by assumption) ?r34
          case h34 => (intro w hSw; (try dsimp only at hSw); go_simp; try with_reducible rfl)
          try simp only [Act.put, List.setIfInBounds_toArray, List.set_cons_zero, List.set_cons_succ]
          refine wpAnyH_done (by kernel_rfl) ?_ _
          cases dd with
          | false =>
            obtain ⟨z1, z2⟩ := NO.out (by rw [HW2.out, HDD.out, Bool.and_false])
            have Z1 := hid z1
            have Z2 := hid z2
            clear z1 z2
            go_wp2_with fail
            go_ret2
            exact ⟨_, by rw [Z1.out]; rfl, by rw [Z2.out]; exact EntsOwn.nil _ _, B1.trans (BB31.mono s1)⟩
          | true =>
            have hy : isWhole ls r no homes = true := by rw [HW2.out, HDD.out, HMY.out]; rfl
            have Z1 := hid (show wholeN ls r no homes = t by unfold wholeN; rw [if_pos hy, HT.out])
            have Z2 := hid (show wholeE ls r no homes = l by unfold wholeE; rw [if_pos hy, HT.out, HLE.out])
            clear hy
            have RES := hid (EOH.out.below BB31 (Nat.le_refl _))
            go_wp2_with fail
            go_ret2
            exact ⟨_, by rw [Z1.out]; rfl, by rw [Z2.out]; rw [HNL.out] at RES; exact RES.out, B1.trans (BB31.mono s1)⟩

end Go.Proofs.YtleoelhhndeheaaGreat
