/- LedgerLooks: the walk -/
import Derived.Test.YtddcggdbnhmoiaaEntsW
import Derived.Test.YtddcggdbnhmoiaaActsArg
import Derived.Test.YtddcggdbnhmoiaaLawX
open Go Go.RowKit
namespace Go.Proofs.Ytddcggdbnhmoiaa

theorem szAct : (Try.prog.info? 36).map (·.size) = some 6 := by kernel_rfl
theorem iStr : (Try.prog.info? 9).map (fun i => (i.zero, i.size, i.bytes)) = some (some (.string ⟨#[]⟩), 1, 16) := by kernel_rfl
theorem mkS {n : Nat} (hn : n ≤ 1000000) (W : World) : (Instr.makeSlice 31 (.int .i64 (n : Int)) (.int .i64 (n : Int))).run Try.prog W = .ok (.slice (some ⟨W.heap.size, 0, none⟩) n n) (W.alloc (.cells (List.replicate n (Value.string ⟨#[]⟩)).toArray 9)) := by
  obtain ⟨i, hi, hz, hs, hb⟩ := info_parts iStr
  have hr := run_make (P := Try.prog) W 31 9 i (.string ⟨#[]⟩) Try.underlying31 hi hz .i64 .i64 n n (by omega) (Int.le_refl _) (by rw [hb]; omega) (by omega)
  rw [hs] at hr
  simp only [Int.toNat_natCast, Nat.mul_one] at hr
  rw [hr]
  have e : madeCells #[Value.string ⟨#[]⟩] n = (List.replicate n (Value.string ⟨#[]⟩)).toArray := by
    apply Array.toList_inj.1
    rw [toList_madeCells_one]
  rw [← e]; rfl

/-- the wanted tracks, as text -/
def wants (n : Nat) (V : Nat → List Int) : List Value := (List.range n).map fun k => .string (strOfNums (V k))
theorem wants_length (n : Nat) (V : Nat → List Int) : (wants n V).length = n := by simp [wants]
theorem wants_get {n : Nat} (V : Nat → List Int) {k : Nat} (hk : k < n) : (wants n V).toArray[k]? = some (.string (strOfNums (V k))) := by simp [wants, hk]
theorem wants_set {n : Nat} (V : Nat → List Int) (k : Nat) (z : List Int) : (wants n V).toArray.setIfInBounds k (.string (strOfNums z)) = (wants n fun j => if j = k then z else V j).toArray := by
  apply Array.ext'
  simp only [Array.toList_setIfInBounds, List.toList_toArray]
  apply List.ext_getElem?
  intro i
  rw [List.getElem?_set]
  unfold wants
  by_cases h : k = i
  · subst h
    by_cases hk : k < n
    · simp [hk]
    · simp [hk]
  · rw [if_neg h, List.getElem?_map, List.getElem?_map]
    cases hi : (List.range n)[i]? with
    | none => rfl
    | some q =>
      have hq : q = i := by obtain ⟨h3, h4⟩ := List.getElem?_eq_some_iff.1 hi; simpa using h4.symm
      subst hq
      have : ¬ q = k := fun e => h e.symm
      simp [this]

theorem stepped {w w' : World} {M M' : Dom} {B B' : Nat → Prop} {wb : Nat} {o : Obj} (h : w.heap[wb]? = some o) (hN : ∀ q, M q ∨ B q → q ≠ wb) (k : LStep M B w M' B' w') : w'.heap[wb]? = some o ∧ ∀ q, M' q ∨ B' q → q ≠ wb := by
  have hl := lt_of_blk h
  refine ⟨(k.ext.block wb hl (fun hf => hN wb hf rfl)).trans h, fun q hq e => ?_⟩
  subst e
  rcases hq with hq | hq
  · exact (k.new q hq).elim (fun h2 => hN q (.inl h2) rfl) (fun h2 => by omega)
  · exact (k.newB q hq).elim (fun h2 => hN q (.inr h2) rfl) (fun h2 => by omega)

set_option maxRecDepth 100000 in
set_option maxHeartbeats 8000000 in
theorem ledgerLooks_any (lv : Int) (a : Option Addr) (len cap : Nat) (X : Nat → ActV) (w : World) (hl : -9223372036854775808 ≤ lv ∧ lv ≤ 9223372036854775807) (hX : ActsAt w a len X) :
    Calls Try.prog 4 #[.int .i64 lv, .slice a len cap] w fun e w' => e = .returned (.bool true) ∧ Below w.heap.size w w' := by
  have m9 := fun W => mkS (n := 9) (by omega) W
  simp only [show ((9 : Nat) : Int) = 9 from rfl] at m9
  have HX := hid hX
  clear hX
  go_enter Try.func4, Try.ntmps4
  go_wp2_with fail
  refine (known5_any w).mono ?_
  rintro e w1 ⟨rfl, B1⟩
  go_wp2_with fail
  refine (pick_any lv 20 w1 hl (by omega) (by omega)).mono ?_
  rintro e w2 ⟨rfl, rfl⟩
  obtain ⟨x, hx, hxl⟩ : ∃ x : Nat, lv % 20 = x ∧ x < 20 := ⟨(lv % 20).toNat, by omega, by omega⟩
  rw [hx]
  clear hx
  have FO := found5_any (x + 16) (5 + (x : Int)) w1 (by omega) (by omega) (by unfold mayC; simp; omega)
  rw [show ((x + 16 : Nat) : Int) = 5 + (x : Int) + 11 by omega] at FO
  have hH9 : homes (x + 16) (5 + (x : Int)) = 9 := by unfold homes; omega
  go_wp2_with fail
  refine FO.mono ?_
  rintro e w2 ⟨M, B, d, l, mb, s, L, rfl, b⟩
  have SI := hid b.since
  have LV := hid b.live
  clear b FO
  go_wp2_with fail
  refine (known5_any w2).mono ?_
  rintro e w3 ⟨rfl, B3⟩
  have SI3 := hid (SI.out.to B3)
  have LV3 := hid (LV.out.below B3)
  clear SI LV B3
  go_wp2_with fail
  have HM := homeU LV3.out
  rw [hH9] at HM
  refine HM.mono ?_
  rintro e w4 ⟨rfl, rfl⟩
  clear HM
  go_wp2_with fail
  have m96 := fun W => mkU (n := 96) (by omega) W
  simp only [show ((96 : Nat) : Int) = 96 from rfl] at m96
  obtain ⟨z96, hz96⟩ : ∃ z, (B8 (List.replicate 96 0)).toArray = z := ⟨_, rfl⟩
  rw [hz96] at m96
  have CZ : ∀ W : World, (convert 33 9 (.slice (some ⟨W.heap.size, 0, none⟩) 96 96)).run Try.prog (W.alloc (.cells z96 5)) = .ok (.string (strOfNums zeros96)) (W.alloc (.cells z96 5)) := fun W =>
    conv_row Try.underlying33 Try.underlying5 Try.underlying9 96 (by rw [← hz96]; exact row_blk (blk_new _ _)) zeros96_len
  obtain ⟨wb, hwb⟩ : ∃ wb, w3.heap.size = wb := ⟨_, rfl⟩
  rw [hwb]
  obtain ⟨sz, hsz⟩ : ∃ sz, strOfNums zeros96 = sz := ⟨_, rfl⟩
  rw [hsz] at CZ
  have HSZ := hid hsz
  clear hsz hz96
  go_loopw [46] (fun v wr => ∃ i : Nat, v = .int .i64 i ∧ i ≤ 9 ∧ Hid (wr.heap[wb]? = some (.cells (wants 9 fun j => if j < i then zeros96 else []).toArray 9 (0, 0))) ∧ Below wb w3 wr) (fun v _ => 9 - (Go.RowKit.intOf v).toNat)
  case atStart =>
    refine ⟨0, rfl, by omega, hid ((blk_at _ hwb.symm).trans ?_), (Below.refl _ _).alloc (by omega) _⟩
    rfl
  case round =>
    obtain ⟨i, rfl, hi, PW, BW⟩ := hrel
    by_cases h : i < 9
    · have fz := fun o => blk_free (o := o) PW.out
      have lw := lt_of_blk PW.out
      have cw : wr.cell? ⟨wb, i, none⟩ = some (.string (strOfNums [])) := blk_cell PW.out (by rw [wants_get _ h]; simp)
      have cw' : ∀ o, (wr.alloc o).cell? ⟨wb, i, none⟩ = some (.string (strOfNums [])) := fun o => cell_alloc o cw
      have fz' : ∀ o q, (wr.alloc o).frozen? ⟨wb, q, none⟩ = false := fun o q => free_alloc o lw (fz q)
      go_wp2_with fail
      go_roundw
      case measure => simp [Go.RowKit.intOf]; omega
      case rel =>
        refine ⟨i + 1, by go_num, by omega, hid (blk_old _ ((blk_setCell PW.out _).trans ?_)), (Below.setCell BW (Nat.le_refl _) _).alloc (by have := BW.size; simp; omega) _⟩
        rw [← HSZ.out, wants_set]
        congr 4
        funext j
        by_cases h1 : j = i
        · subst h1; simp
        · by_cases h2 : j < i
          · rw [if_neg h1, if_pos h2, if_pos (by omega)]
          · rw [if_neg h1, if_neg h2, if_neg (by omega)]
    · obtain rfl : i = 9 := by omega
      have PW9 : Hid (wr.heap[wb]? = some (.cells (wants 9 fun _ => zeros96).toArray 9 (0, 0))) := hid (PW.out.trans rfl)
      have LV4 := hid (LV3.out.addX (F := fun q => q = wb) (hwb ▸ BW) (fun q hq => by subst hq; exact ⟨Nat.le_of_eq hwb, lt_of_blk PW9.out⟩))
      have SI4 : Hid (Since w1 wr (M.addX fun q => q = wb) B) := hid ⟨(SI3.out.to (hwb ▸ BW)).below, (SI3.out.to (hwb ▸ BW)).new⟩
      have WBH : Hid (w1.heap.size ≤ wb) := hid (hwb ▸ SI3.out.below.size)
      have NWB : Hid (∀ q, M.M q ∨ B q → q < wb) := hid (fun q hq => by
        rw [← hwb]
        obtain ⟨pd, -, D⟩ := LV3.out.sys.drum
        rcases hq with hq | hq
        · exact D.ml q hq
        · exact LV3.out.sys.led.bs q hq)
      have HXr := hid (HX.out.below (B1.trans ((SI4.out.below).mono B1.size)) (Nat.le_refl _))
      clear PW LV3 SI3 CZ m96 m9
      have hixA : ∀ (i : Nat), i < len → ∀ W', (Instr.indexAt 26 (.slice a len cap) (.int .i64 i)).run Try.prog W' = .ok (.pointer (some ⟨sB a, sO a + i * 6, none⟩)) W' := fun i hi W' => idx_at (P := Try.prog) Try.underlying26 szAct HXr.out.nn hi W'
      clear hi h
      go_wp2_with fail
      go_loopw [5, 9] (fun u v wx => ∃ (i : Nat) (M' : Dom) (B' : Nat → Prop) (l' mb' : Nat) (s' : DS) (L' : LS) (V : Nat → List Int), u = .pointer (some ⟨l', 0, none⟩) ∧ v = .int .i64 i ∧ i ≤ 22 ∧ i ≤ len ∧ Hid (Live wx M' B' d l' mb' (x + 16) (5 + (x : Int)) i V s' L') ∧ Hid (Since w1 wx M' B') ∧ Hid (∀ q, M' q ∨ B' q → q ≠ wb) ∧
        Hid (wx.heap[wb]? = some (.cells (wants 9 V).toArray 9 (0, 0))) ∧ Hid (M'.X wb)) (fun _ v _ => 22 - (Go.RowKit.intOf v).toNat)
      case atStart => exact ⟨0, M.addX fun q => q = wb, B, l, mb, s, L, _, rfl, rfl, by omega, Nat.zero_le _, LV4, SI4, hid (fun q hq e => by have := NWB.out q hq; omega), PW9, hid (.inr rfl)⟩
      case round =>
        obtain ⟨i, M5, B5, l5, mb5, s5, L5, V, rfl, rfl, hi22, hil, LV5, SI5, NB5, PW5, XB5⟩ := hrel
        by_cases hgo : i < len ∧ i < 22
        · obtain ⟨h1, h2⟩ := hgo
          have hixk := hixA i h1
          have AX := hid (HX.out.below (B1.trans ((SI5.out.below).mono B1.size)) (Nat.le_refl _))
          have c0 := AX.out.c0 i h1
          have c1 := AX.out.c1 i h1
          have c2 := AX.out.c2 i h1
          have c3 := AX.out.c3 i h1
          have c4 := AX.out.c4 i h1
          have c5 := AX.out.c5 i h1
          have AO := AX.out.ok i h1
          obtain ⟨⟨wh, xn, xt, xc, aa, al, ac, az, ka, kl, kc, kz⟩, hXi⟩ : ∃ y, X i = y := ⟨_, rfl⟩
          rw [hXi] at c0 c1 c2 c3 c4 c5 AO
          simp only at c0 c1 c2 c3 c4 c5
          have PK := fun W => pick_any wh 8 W AO.b0 (by omega) (by omega)
          obtain ⟨q, hq⟩ : ∃ q, wh % 8 = q := ⟨_, rfl⟩
          have hq0 : 0 ≤ q ∧ q < 8 := by omega
          rw [hq] at PK
          have AO := hid AO
          clear hq hXi
          go_wp2_with fail
          refine (PK _).mono ?_
          rintro e w6 ⟨rfl, rfl⟩
          clear PK
          go_upto_block 4 with fail
          go_cut [5] (fun v W => ∃ (M' : Dom) (B' : Nat → Prop) (l' mb' : Nat) (s' : DS) (L' : LS) (V' : Nat → List Int), v = .pointer (some ⟨l', 0, none⟩) ∧ Hid (Live W M' B' d l' mb' (x + 16) (5 + (x : Int)) (i + 1) V' s' L') ∧ Hid (Since w1 W M' B') ∧ Hid (∀ q, M' q ∨ B' q → q ≠ wb) ∧
            Hid (W.heap[wb]? = some (.cells (wants 9 V').toArray 9 (0, 0))) ∧ Hid (M'.X wb))
          case first =>
            as_aux_lemma =>
            have lwb : wb < wr.heap.size := lt_of_blk PW5.out
            have WB1 : w1.heap.size ≤ wb := WBH.out
            by_cases h5 : q = 5
            · subst h5
              have ST := settleU LV5.out
              go_wp2_with fail
              refine ST.mono ?_
              rintro e w7 ⟨rfl, M7, B7, mb7, s7, T7, LV7, Q7⟩
              have XB7 := hid (T7.oldX wb XB5.out)
              have R := hid (stepped PW5.out NB5.out T7)
              have L7 := hid (LV7.le (N' := i + 1) (by omega))
              have S7 := hid (SI5.out.lstep T7)
              clear ST T7 LV7 Q7
              go_wp2_with fail
              go_meet
              exact ⟨M7, B7, _, mb7, _, _, V, rfl, L7, S7, hid R.out.2, hid R.out.1, XB7⟩
            · by_cases h6 : q = 6
              · subst h6
                have ST := balanceU LV5.out (by omega)
                go_wp2_with fail
                refine ST.mono ?_
                rintro e w7 ⟨rfl, M7, B7, mb7, s7, L7, T7, LV7, Q7, U7⟩
                have XB7 := hid (T7.oldX wb XB5.out)
                have R := hid (stepped PW5.out NB5.out T7)
                have S7 := hid (SI5.out.lstep T7)
                have BK := blankU LV7
                rw [U7, Int.sub_zero] at BK
                have LH := hid LV7
                clear ST T7 LV7 Q7 U7
                go_wp2_with fail
                refine BK.mono ?_
                rintro e w8 ⟨rfl, B8'⟩
                have R8 := hid (stepped R.out.1 R.out.2 (LStep.of_below (M := M7) (B := B7) B8'))
                have L8 := hid (LH.out.below B8')
                have S8 := hid (S7.out.to B8')
                clear BK B8'
                go_wp2_with fail
                go_meet
                exact ⟨M7, B7, _, mb7, _, _, V, rfl, L8, S8, hid R8.out.2, hid R8.out.1, XB7⟩
              · by_cases h7 : q = 7
                · subst h7
                  obtain ⟨P5, f5⟩ := LV5.out.full
                  have OP := openU LV5.out.sys.drum f5.g f5.lost LV5.out.n LV5.out.leaves LV5.out.up LV5.out.round LV5.out.v (by omega)
                  clear f5
                  go_wp2_with fail
                  refine OP.mono ?_
                  rintro e w7 ⟨M7, B7, l7, mb7, s7, L7, rfl, T7, LV7, Q7, U7⟩
                  have XB7 := hid (T7.oldX wb XB5.out)
                  have R := hid (stepped (B := none') PW5.out (fun q hq => hq.elim (fun h => NB5.out q (.inl h)) (fun h => h.elim)) T7)
                  have S7 := hid (SI5.out.forget.lstep T7)
                  have LH := hid LV7
                  clear OP T7 LV7 Q7 U7
                  go_wp2_with fail
                  go_meet
                  exact ⟨M7, B7, _, mb7, _, _, V, rfl, LH, S7, hid R.out.2, hid R.out.1, XB7⟩
                · have n5 : ¬ q = 5 := h5
                  have EN := fun W (hW : Below wr.heap.size wr W) => entries5_any wh xn xt xc aa al ac az (.slice ka kl kc) 9 4 W (AO.out.at_.below hW (Nat.le_refl _)) AO.out.b1 AO.out.ab (by omega) (by omega)
                  simp only [show ((9 : Nat) : Int) = 9 from rfl, show ((4 : Nat) : Int) = 4 from rfl] at EN
                  have EN0 := EN wr (Below.refl _ _)
                  clear EN
                  go_wp2_with fail
                  refine EN0.mono ?_
                  rintro e w7 ⟨va, vb, el, rfl, EO, RO, EB, EL, B7⟩
                  have LV7 := hid (LV5.out.below B7)
                  have S7 := hid (SI5.out.to B7)
                  have R7 := hid (stepped PW5.out NB5.out (LStep.of_below (M := M5) (B := B5) B7))
                  obtain ⟨ea, ec, rfl, EA, hec⟩ := EO.out (N := inD M5) (fun q hq _ => by
                    rcases Nat.lt_or_ge q wr.heap.size with h | h
                    · exact h
                    · exact absurd hq (LV5.out.sys.free h))
                  have EOH := hid EO
                  have EBH := hid EB
                  have hbb : ∀ x ∈ el, IsBytes x.2 := fun y hy => by
                    obtain ⟨us, u0, u1, u2⟩ := EO.row
                    obtain ⟨i, hi⟩ := List.getElem?_of_mem hy
                    obtain ⟨u, h1, h2, h3, h4⟩ := u2 i y hi
                    exact h3
                  have EAH := hid EA
                  have WU := writeU LV7.out (by omega) ea el.length ec el EA (by omega) hbb
                  have LA := fun W => leaves_any (el.length : Int) W (by omega)
                  clear EN0 EO RO EB B7 EA hbb
                  go_wp2_with fail
                  refine WU.mono ?_
                  rintro e w8 ⟨M8, B8', mb8, s8, L8, T8, ⟨hm, rfl, LV8⟩ | ⟨hm, hbig, rfl, LV8⟩ | ⟨hm, hfit, rfl, LV8⟩⟩
                  · have LH := hid LV8
                    have XB8 := hid (T8.oldX wb XB5.out)
                    have R8 := hid (stepped R7.out.1 R7.out.2 T8)
                    have S8 := hid (S7.out.lstep T8)
                    clear WU LA T8 LV8
                    go_wp2_with fail
                    go_loopw [15] (fun v W => v = .int .i64 0 ∧ W = w8) (fun _ _ => 0)
                    case atStart => exact ⟨rfl, rfl⟩
                    case round =>
                      obtain ⟨rfl, rfl⟩ := hrel
                      by_cases h0 : 0 < el.length
                      · go_wp2_with fail
                        go_meet
                        exact ⟨M8, B8', _, mb8, _, _, V, rfl, LH, S8, hid R8.out.2, hid R8.out.1, XB8⟩
                      · go_wp2_with fail
                        go_meet
                        exact ⟨M8, B8', _, mb8, _, _, V, rfl, LH, S8, hid R8.out.2, hid R8.out.1, XB8⟩
                  · have LH := hid LV8
                    have XB8 := hid (T8.oldX wb XB5.out)
                    have R8 := hid (stepped R7.out.1 R7.out.2 T8)
                    have S8 := hid (S7.out.lstep T8)
                    obtain ⟨ln, hln⟩ : ∃ ln, leavesN (el.length : Int) = ln := ⟨_, rfl⟩
                    rw [hln] at LA hbig
                    have hbig2 : ¬ (ln ≤ 5 + (x : Int)) := by omega
                    clear WU T8 LV8 hln
                    go_wp2_with fail
                    refine (LA _).mono ?_
                    rintro e w9 ⟨rfl, rfl⟩
                    clear LA
                    go_wp2_with fail
                    go_loopw [15] (fun v W => v = .int .i64 0 ∧ W = w8) (fun _ _ => 0)
                    case atStart => exact ⟨rfl, rfl⟩
                    case round =>
                      obtain ⟨rfl, rfl⟩ := hrel
                      by_cases h0 : 0 < el.length
                      · go_wp2_with fail
                        go_meet
                        exact ⟨M8, B8', _, mb8, _, _, V, rfl, LH, S8, hid R8.out.2, hid R8.out.1, XB8⟩
                      · go_wp2_with fail
                        go_meet
                        exact ⟨M8, B8', _, mb8, _, _, V, rfl, LH, S8, hid R8.out.2, hid R8.out.1, XB8⟩
                  · have LH := hid LV8
                    have XB8 := hid (T8.oldX wb XB5.out)
                    have R8 := hid (stepped R7.out.1 R7.out.2 T8)
                    have S8 := hid (S7.out.lstep T8)
                    have EA8 := hid (EAH.out.lstep T8 (fun q hq => (LV7.out.sys.led.bx q hq).1))
                    rw [hH9] at hm
                    have KE := hid (mayE_keys hm)
                    clear WU LA T8 LV8 hm hfit
                    go_wp2_with fail
                    go_loopw [15] (fun v W => ∃ k : Nat, v = .int .i64 k ∧ k ≤ el.length ∧ Hid (W.heap[wb]? = some (.cells (wants 9 fun j => over (el.take k) j (V j)).toArray 9 (0, 0))) ∧ Hid (Live W M8 B8' d l5 mb8 (x + 16) (5 + (x : Int)) (i + 1) (fun k => over el k (V k)) s8 L8) ∧ Hid (Since w1 W M8 B8') ∧ Hid (EntsAt W (inD M8) ea el.length el)) (fun v _ => el.length - (Go.RowKit.intOf v).toNat)
                    case atStart => exact ⟨0, rfl, Nat.zero_le _, hid R8.out.1, LH, S8, EA8⟩
                    case round =>
                      obtain ⟨k, rfl, hk, PK, LK, SK, EK⟩ := hrel
                      by_cases h0 : k < el.length
                      · obtain ⟨⟨kx, kz⟩, hx⟩ : ∃ y, el[k]? = some y := ⟨_, List.getElem?_eq_getElem h0⟩
                        have e0 := EK.out.c0 k _ hx
                        obtain ⟨pb, pc, e1, rz, -, hzb, -⟩ := EK.out.c1 k _ hx
                        have hixE := EK.out.idx (cap := ec) h0
                        obtain ⟨kn, hkn, hkl⟩ : ∃ kn : Nat, kx = kn ∧ kn < 9 := by
                          have := KE.out _ (List.mem_of_getElem? hx)
                          exact ⟨kx.toNat, by simp only at this; omega, by simp only at this; omega⟩
                        subst hkn
                        have CK := conv_row (P := Try.prog) Try.underlying33 Try.underlying5 Try.underlying9 pc rz rfl
                        have CKd := conv_row (P := Try.prog) (w := wr.drew) Try.underlying33 Try.underlying5 Try.underlying9 pc (Row.keep rz (w' := wr.drew) (fun _ => rfl)) rfl
                        have cw : wr.cell? ⟨wb, kn, none⟩ = some (.string (strOfNums (over (el.take k) kn (V kn)))) := blk_cell PK.out (wants_get _ hkl)
                        have fz := fun o => blk_free (o := o) PK.out
                        have lw := lt_of_blk PK.out
                        simp only at e0 e1
                        go_wp2_with fail
                        go_still_tail 12, (by kernel_rfl)
                        change wpList _ _ _ _ _ wr.drew
                        go_wp2_with fail
                        go_roundw
                        case measure => simp [Go.RowKit.intOf]; omega
                        case rel =>
                          have XW : Ext (fun q => q = wb) wr (wr.drew.setCell ⟨wb, kn, none⟩ (.string (strOfNums kz))) := ((Ext.refl _ wr).drew).trans Ext.set (fun _ _ h => h)
                          refine ⟨k + 1, by go_num, by omega, hid ((blk_setCell (w := wr.drew) PK.out _).trans ?_), hid (LK.out.wrote XW (fun q hq => by subst hq; exact XB8.out) (fun q hq => by subst hq; exact ⟨fun h => R8.out.2 q (.inl h) rfl, fun h => R8.out.2 q (.inr h) rfl⟩)), hid ⟨Below.ext SK.out.below XW (fun q hq => by subst hq; exact WB1) SK.out.below.size, SK.out.new⟩, hid (EK.out.keep XW (fun q hq _ => by subst hq; exact .inr XB8.out))⟩
                          rw [wants_set]
                          congr 4
                          funext j
                          rw [List.take_add_one, hx]
                          show _ = over (el.take k ++ [((kn : Int), kz)]) j (V j)
                          rw [over_snoc]
                          by_cases hj : j = kn
                          · subst hj; simp
                          · rw [if_neg hj, if_neg (by simp; omega)]
                      · obtain rfl : k = el.length := by omega
                        go_wp2_with fail
                        go_meet
                        refine ⟨M8, B8', _, mb8, _, _, _, rfl, LK, SK, hid R8.out.2, hid (PK.out.trans (by rw [List.take_length])), XB8⟩
          case rest =>
            obtain ⟨M9, B9, l9, mb9, s9, L9, V9, rfl, LV9, SI9, NB9, PW9', XB9⟩ := hcut
            clear PW9 PW5 LV5 SI5 NB5 LV4 SI4 NWB
            go_wp2_with fail
            go_loopw [156] (fun v W => ∃ k : Nat, v = .int .i64 k ∧ k ≤ 9 ∧ Hid (Live W M9 B9 d l9 mb9 (x + 16) (5 + (x : Int)) (i + 1) V9 s9 L9) ∧ Hid (Since w1 W M9 B9) ∧ Hid (W.heap[wb]? = some (.cells (wants 9 V9).toArray 9 (0, 0)))) (fun v _ => 9 - (Go.RowKit.intOf v).toNat)
            case atStart => exact ⟨0, rfl, by omega, LV9, SI9, PW9'⟩
            case round =>
              obtain ⟨k, rfl, hk9, LK, SK, PK⟩ := hrel
              by_cases h0 : k < 9
              · have LU := lookU LK.out k (by rw [hH9]; exact h0)
                go_wp2_with fail
                refine LU.mono ?_
                rintro e wl ⟨la, lc, rfl, ho, hz96, hby, LV10, T10⟩
                have R10 := hid (stepped PK.out NB9.out T10)
                have L10 := hid LV10
                have S10 := hid (SK.out.lstep T10)
                obtain ⟨_, _, hve, -, -, -, hrow, -⟩ := row_of_owns ho
                cases hve
                have CK := conv_row (P := Try.prog) Try.underlying33 Try.underlying5 Try.underlying9 lc hrow hz96
                have CKn := fun n => conv_row (P := Try.prog) (w := wl.drewN n) Try.underlying33 Try.underlying5 Try.underlying9 lc (Row.keep hrow (w' := wl.drewN n) (fun _ => rfl)) hz96
                have cw : wl.cell? ⟨wb, k, none⟩ = some (.string (strOfNums (V9 k))) := blk_cell R10.out.1 (wants_get _ h0)
                clear LU ho hz96 hby LV10 T10 hrow
                go_wp2_with fail
                go_quiet (fail)
                go_wp2_with fail
                go_roundw
                case measure => simp [Go.RowKit.intOf]; omega
                case rel => exact ⟨k + 1, by go_num, by omega, hid (L10.out.below (Below.drewN (Below.refl _ wl) _)), hid (S10.out.to (Below.drewN (Below.refl _ wl) _)), hid R10.out.1⟩
              · obtain rfl : k = 9 := by omega
                go_wp2_with fail
                refine ⟨?_, ?measure⟩
                case' measure => simp [Go.RowKit.intOf]; omega
                repeat' apply Exists.intro
                refine ⟨?rel, rfl⟩
                case rel => exact ⟨i + 1, M9, B9, l9, mb9, s9, L9, V9, rfl, by go_num, by omega, by omega, LK, SK, NB9, PK, XB9⟩
        · have BF := (B1.trans ((SI5.out.below).mono B1.size))
          by_cases h1 : i < len
          · obtain rfl : i = 22 := by omega
            have h2 : (22 : Int) < (len : Int) := by omega
            go_wp2_with fail
            go_ret
            exact ⟨rfl, BF⟩
          · obtain rfl : i = len := by omega
            go_wp2_with fail
            go_ret
            exact ⟨rfl, BF⟩

end Go.Proofs.Ytddcggdbnhmoiaa
