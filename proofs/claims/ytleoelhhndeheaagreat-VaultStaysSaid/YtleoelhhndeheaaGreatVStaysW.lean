/- VaultStays: the walk -/
import Derived.Test.YtleoelhhndeheaaGreatVStC
import Derived.Test.YtleoelhhndeheaaGreatStepRow
import Derived.Deep.Cut
import Derived.Deep.CutBlock
import Derived.Deep.CutRange
import Derived.Deep.DeepCutAuto
open Go Go.RowKit
open Go.Maps (Keyed has)
namespace Go.Proofs.YtleoelhhndeheaaGreat

theorem iMs : (Tryz.prog.info? 32).map (fun i => (i.zero, i.size, i.bytes)) = some (some (.map none), 1, 8) := by kernel_rfl
theorem szMs : (Tryz.prog.info? 32).map (·.size) = some 1 := by kernel_rfl
/-- a vault that was founded -/
def VBeg (w1 w : World) (d n : Nat) (lv : Int) (N v : Nat) : Prop := ∃ M B C l mb s L V, VAlv w M B C d l mb v n lv N [noRcs.data] V s L noRcs noRcs ∧ Since w1 w M (fun q => B q ∨ C q)
theorem VBeg.below {w1 w w' : World} {d n : Nat} {lv : Int} {N v : Nat} (h : VBeg w1 w d n lv N v) (k : Below w.heap.size w w') : VBeg w1 w' d n lv N v := by
  obtain ⟨M, B, C, l, mb, s, L, V, h1, h2⟩ := h
  exact ⟨M, B, C, l, mb, s, L, V, h1.below k, h2.to k⟩
theorem VBeg.start {w1 w : World} {d n : Nat} {lv : Int} {N v : Nat} (h : VBeg w1 w d n lv N v) :
    VStay w1 (((w.alloc (.map #[] 0)).alloc (.map #[] 0)).alloc (.cells #[.map (some (w.heap.size + 1))] 32)) d n lv N v noRcs noRcs [noRcs.data] [(w.heap.size, noRcs.data), (w.heap.size + 1, noRcs.data)] (.slice (some ⟨w.heap.size + 2, 0, none⟩) 1 1) [(w.heap.size + 1, noRcs.data)] [] := by
  obtain ⟨M, B, C, l, mb, s, L, V, h1, h2⟩ := h
  obtain ⟨wa, hwa⟩ : ∃ wa, w.alloc (.map #[] 0) = wa := ⟨_, rfl⟩
  obtain ⟨wb, hwb⟩ : ∃ wb, wa.alloc (.map #[] 0) = wb := ⟨_, rfl⟩
  have sa : wa.heap.size = w.heap.size + 1 := by rw [← hwa]; simp
  have sb : wb.heap.size = w.heap.size + 2 := by rw [← hwb]; simp [sa]
  have ka : Below w.heap.size w wa := by rw [← hwa]; exact (Below.refl _ _).alloc (Nat.le_refl _) _
  have kb : Below wa.heap.size wa wb := by rw [← hwb]; exact (Below.refl _ _).alloc (Nat.le_refl _) _
  have kc : Below wb.heap.size wb (wb.alloc (.cells #[.map (some (w.heap.size + 1))] 32)) := (Below.refl _ _).alloc (Nat.le_refl _) _
  have ia : IMap wa w.heap.size 4096 (strM noRcs.data) := strM_small (n := 0) (RcsOk.none 5).data (by rw [← hwa]; exact IMap.made w)
  have ib : IMap wb (w.heap.size + 1) 4096 (strM noRcs.data) := strM_small (n := 0) (RcsOk.none 5).data (by rw [← hwb, ← sa]; exact IMap.made wa)
  rw [hwa, hwb]
  obtain ⟨wc, hwc⟩ : ∃ wc, wb.alloc (.cells #[.map (some (w.heap.size + 1))] 32) = wc := ⟨_, rfl⟩
  have sc : wc.heap.size = w.heap.size + 3 := by rw [← hwc]; simp [sb]
  have row : wc.ownsRow 0 32 1 (.slice (some ⟨w.heap.size + 2, 0, none⟩) 1 1) 1 [.map (some (w.heap.size + 1))] := by rw [← hwc, ← sb]; exact World.ownsRow_lit wb #[.map (some (w.heap.size + 1))] 1 (Nat.zero_le _) (by simp [maxLen]) rfl
  rw [hwc] at kc ⊢
  have kk : Below w.heap.size w wc := ka.trans ((kb.mono ka.size).trans (kc.mono (by omega)))
  have hl := h1.lows
  have hs := h2.below.size
  refine ⟨M.addX fun q => w.heap.size ≤ q ∧ q < w.heap.size + 3, B, C, l, mb, s, L, V, h1.otherG (F := fun _ => False) (Ext.of_below kk _) (fun q hq => hq.elim) (fun q hq => ⟨hq.1, by omega⟩), ?_⟩
  have new : ∀ q, w.heap.size ≤ q → q < w.heap.size + 3 → Bes1 wc (M.addX fun q => w.heap.size ≤ q ∧ q < w.heap.size + 3) (fun q => B q ∨ C q) q := fun q q1 q2 => ⟨.inr ⟨q1, q2⟩, fun hm => by have := hl q (.inl hm); omega, fun hm => by have := hl q (.inr hm); omega, by omega⟩
  have im : ∀ x ∈ [(w.heap.size, noRcs.data), (w.heap.size + 1, noRcs.data)], IMap wc x.1 4096 (strM x.2) ∧ w.heap.size ≤ x.1 ∧ x.1 < w.heap.size + 2 := fun x hx => by
    simp only [List.mem_cons, List.mem_nil_iff, or_false] at hx
    rcases hx with rfl | rfl
    · exact ⟨(ia.below (kb.mono (Nat.le_refl _)) (by omega)).below kc (Nat.le_refl _), Nat.le_refl _, by show w.heap.size < _; omega⟩
    · exact ⟨ib.below kc (Nat.le_refl _), by show w.heap.size ≤ _ + 1; omega, by show w.heap.size + 1 < _; omega⟩
  have hM : ∀ x, x ∈ [(w.heap.size, noRcs.data), (w.heap.size + 1, noRcs.data)] ∨ x ∈ [(w.heap.size + 1, noRcs.data)] → x ∈ [(w.heap.size, noRcs.data), (w.heap.size + 1, noRcs.data)] := fun x hx => hx.elim id (fun hx => List.mem_cons_of_mem _ hx)
  refine ⟨(h2.to kk).addX, fun x hx => ?_, ⟨w.heap.size + 2, 1, rfl, row, new _ (by omega) (by omega), by omega, Nat.le_refl _, fun x hx => ?_, fun x hx => by cases hx⟩, fun x hx => by cases hx⟩
  · obtain ⟨q1, q2, q3⟩ := im x (hM x hx)
    exact ⟨new _ q2 (by omega), q1, by omega⟩
  · obtain ⟨q1, q2, q3⟩ := im x (hM x hx)
    omega
section
variable {w1 w : World} {d n : Nat} {lv : Int} {N v : Nat} {Rn Rk : Rcs} {T : List DT} {ms : List (Nat × DT)} {vm : Value} {tm : List (Nat × DT)} {os : List (Nat × Obj)}
theorem VStay.noObj (h : VStay w1 w d n lv N v Rn Rk T ms vm tm os) : VStay w1 w d n lv N v Rn Rk T ms vm tm [] := by
  obtain ⟨M, B, C, l, mb, s, L, V, h1, h2⟩ := h
  obtain ⟨g, c, e, r1, r2, r3, r4, r5, r6⟩ := h2.row
  exact ⟨M, B, C, l, mb, s, L, V, h1, h2.since, h2.maps, ⟨g, c, e, r1, r2, r3, r4, r5, fun x hx => by cases hx⟩, fun x hx => by cases hx⟩
theorem sB_old {w0 w1 : World} {a : Option Addr} {m c : Nat} {zs : List Int} (h : IntsAt w0 a m c zs) (k : Below w0.heap.size w0 w1) (hm : 0 < m) : sB a < w1.heap.size := by
  have hs := k.size
  have hl : 0 < zs.length := by rw [h.len]; exact hm
  have := lt_of_cell (h.row.cell 0 (.int .i64 zs[0]) (by rw [I8, List.getElem?_map, List.getElem?_eq_getElem hl]; rfl))
  omega
end
/-- what stands behind the switch -/
def Mid (w1 W : World) (d N v xb : Nat) (o : Obj) (mn mk : Nat) (vm : Value) (Rn Rk : Rcs) (tm : List (Nat × DT)) : Prop :=
  (VStay w1 W d 90 30 N v Rn Rk (tm.map Prod.snd) [(mn, Rn.data), (mk, Rk.data)] vm tm [(xb, o)] ∧ ∀ x, x ∈ [(mk, Rk.data)] ∨ x ∈ tm → x.1 ≠ mn) ∨ SStay w1 W d 90 30 N true (tm.map Prod.snd) [] vm tm [(xb, o)]

set_option maxRecDepth 100000 in
set_option maxHeartbeats 16000000 in
theorem vaultStays_any (a0 : Option Addr) (len0 cap0 : Nat) (X : Nat → ActW) (w : World) (hX : ActsW w a0 len0 X) :
    Calls Tryz.prog 10 #[.slice a0 len0 cap0] w fun e w' => e = .returned (.bool true) ∧ Below w.heap.size w w' := by
  obtain ⟨i0, hi0, hz0, hz1, hz2⟩ := info_parts iMs
  have hixA := fun i hi W => hX.ix cap0 i hi W
  have HX := hid hX
  have hmm := @run_makeMap Tryz.prog
  clear hX
  have eH : homes 90 30 = 58 := by decide
  go_enter Tryz.func10, Tryz.ntmps10
  go_wp2_with fail
  refine (known6_any w).mono ?_
  rintro e w1 ⟨rfl, B1⟩
  have HB1 := hid B1
  clear B1
  go_wp2_with fail
  refine (found6x_any 90 30 w1 (by omega) (by omega) (by decide) (by decide)).mono ?_
  rintro e w2 ⟨M, B, C, d, l, mb, v, s, L, V, rfl, VA, SI⟩
  have VB2 : Hid (VBeg w1 w2 d 90 30 3 v) := hid ⟨M, B, C, l, mb, s, L, V, VA, SI⟩
  clear VA SI
  go_wp2_with fail
  refine (known6_any w2).mono ?_
  rintro e w3 ⟨rfl, B3⟩
  have VS3 := hid (VB2.out.below B3).start
  clear B3 VB2
  obtain ⟨W6, hW6⟩ : ∃ W6, ((w3.alloc (.map #[] 0)).alloc (.map #[] 0)).alloc (.cells #[.map (some (w3.heap.size + 1))] 32) = W6 := ⟨_, rfl⟩
  rw [hW6] at VS3
  obtain ⟨m0, hm0⟩ : ∃ m, w3.heap.size = m := ⟨_, rfl⟩
  rw [hm0] at VS3 hW6
  have INA : Hid (∀ W, Below w1.heap.size w1 W → ActsW W a0 len0 X) := hid fun W hW => HX.out.below (HB1.out.trans (hW.mono HB1.out.size)) (Nat.le_refl _)
  have KOLD : Hid (∀ i, i < len0 → 0 < (X i).kl → sB (X i).ka < w1.heap.size) := hid fun i hi hk => sB_old (HX.out.ok i hi).keep HB1.out hk
  clear HX
  go_wp2_with fail
  go_loopw [3, 5, 6, 7, 8] (fun u3 u5 u6 u7 u8 wr => ∃ (i v mn mk : Nat) (Rn Rk : Rcs) (tm : List (Nat × DT)) (vm : Value), vm = u7 ∧ u3 = .pointer (some ⟨v, 0, none⟩) ∧ u5 = .map (some mn) ∧ u6 = .map (some mk) ∧ u8 = .int .i64 i ∧ i ≤ 36 ∧ i ≤ len0 ∧ Hid (VStay w1 wr d 90 30 (3 + 3 * i) v Rn Rk (tm.map Prod.snd) [(mn, Rn.data), (mk, Rk.data)] vm tm []) ∧ Hid (∀ x, x ∈ [(mk, Rk.data)] ∨ x ∈ tm → x.1 ≠ mn) ∧ Hid (tm.length ≤ i + 1) ∧ Hid (∀ x ∈ tm, DOk x.2)) (fun _ _ _ _ u8 _ => 36 - (intOf u8).toNat)
  case atStart => exact ⟨0, v, m0, m0 + 1, noRcs, noRcs, [(m0 + 1, noRcs.data)], _, rfl, rfl, by first | rfl | (simp [hm0]; done), by first | rfl | (simp [hm0]; done), rfl, by omega, Nat.zero_le _, hid (by first | exact VS3.out | (have h9 := VS3.out; simpa [hm0] using h9)), hid (fun x hx => by simp at hx; subst hx; simp), hid (by simp), hid (fun x hx => by simp at hx; subst hx; exact (RcsOk.none 5).data)⟩
  case round =>
    clear VS3 hW6 hm0
    obtain ⟨i, v, mn, mk, Rn, Rk, tm, vm, rfl, rfl, rfl, rfl, rfl, h36, hil, VSk, NEk, TLk, TOk⟩ := hrel
    by_cases hgo : i < len0 ∧ i < 36
    · obtain ⟨h1, h2⟩ := hgo
      have hixk := hixA i h1
      have AX := hid (INA.out wr VSk.out.since)
      have c0 := AX.out.c0 i h1
      have c1 := AX.out.c1 i h1
      have c2 := AX.out.c2 i h1
      have c3 := AX.out.c3 i h1
      have c4 := AX.out.c4 i h1
      have c5 := AX.out.c5 i h1
      have c6 := AX.out.c6 i h1
      have OKX := AX.out.ok i h1
      have KO := KOLD.out i h1
      obtain ⟨y, hy⟩ : ∃ y, X i = y := ⟨_, rfl⟩
      rw [hy] at c0 c1 c2 c3 c4 c5 c6 OKX KO
      have KOX := hid KO
      have HOK := hid OKX
      have HY := hid hy
      obtain ⟨xb, hxb⟩ : ∃ xb, wr.heap.size = xb := ⟨_, rfl⟩
      obtain ⟨wx, hwx⟩ : ∃ wx, wr.alloc (.cells #[.int .i64 y.what, .int .i64 y.id, .int .i64 y.n, .int .i64 y.torn, .int .i64 y.cut, .slice y.ba y.bl y.bc, .slice y.ka y.kl y.kc] 35) = wx := ⟨_, rfl⟩
      have Bx : Below wr.heap.size wr wx := by rw [← hwx]; exact (Below.refl _ _).alloc (Nat.le_refl _) _
      obtain ⟨ox, hox⟩ : ∃ ox : Obj, (.cells #[.int .i64 y.what, .int .i64 y.id, .int .i64 y.n, .int .i64 y.torn, .int .i64 y.cut, .slice y.ba y.bl y.bc, .slice y.ka y.kl y.kc] 35 (0, 0)) = ox := ⟨_, rfl⟩
      have ob : wx.heap[xb]? = some ox := by rw [← hox, ← hwx, ← hxb]; exact blk_new _ _
      have VSx := hid (VSk.out.obj Bx ⟨Nat.le_of_eq hxb, by rw [← hwx, ← hxb]; simp⟩ ob)
      have hmnx : mn < xb := by rw [← hxb]; exact VSk.out.lt (x := (mn, Rn.data)) (.inl List.mem_cons_self)
      have XNE : Hid (∀ x ∈ [(xb, ox)], x.1 ≠ mn) := hid fun x hx => by
        obtain rfl := List.mem_singleton.1 hx
        show xb ≠ mn
        omega
      have CX : Hid (∀ (W : World), W.heap[xb]? = some ox → W.cell? ⟨xb, 0, none⟩ = some (.int .i64 y.what) ∧ W.cell? ⟨xb, 1, none⟩ = some (.int .i64 y.id) ∧ W.cell? ⟨xb, 2, none⟩ = some (.int .i64 y.n) ∧ W.cell? ⟨xb, 3, none⟩ = some (.int .i64 y.torn) ∧ W.cell? ⟨xb, 4, none⟩ = some (.int .i64 y.cut) ∧ W.cell? ⟨xb, 5, none⟩ = some (.slice y.ba y.bl y.bc) ∧ W.cell? ⟨xb, 6, none⟩ = some (.slice y.ka y.kl y.kc)) := hid fun W hW => by
        rw [← hox] at hW
        exact ⟨blk_cell hW rfl, blk_cell hW rfl, blk_cell hW rfl, blk_cell hW rfl, blk_cell hW rfl, blk_cell hW rfl, blk_cell hW rfl⟩
      obtain ⟨k0, k1, -⟩ := CX.out wx ob
      have PK1 := pick_any y.id 7 wx OKX.b1 (by omega) (by omega)
      have PK2 := pick_any y.what 14 wx OKX.b0 (by omega) (by omega)
      obtain ⟨p, hp⟩ : ∃ p, y.id % 7 = p := ⟨_, rfl⟩
      obtain ⟨q, hq⟩ : ∃ p, y.what % 14 = p := ⟨_, rfl⟩
      have hpb : 0 ≤ p ∧ p ≤ 6 := by omega
      have hqb : 0 ≤ q ∧ q ≤ 13 := by omega
      rw [hp] at PK1
      rw [hq] at PK2
      have OKW : Hid (∀ W, Below w1.heap.size w1 W → ActWOk W y) := hid fun W hW => by have h9 := (INA.out W hW).ok i h1; rw [HY.out] at h9; exact h9
      clear hy OKX Bx hp hq AX ob VSk KO hox
      go_wp2_with fail
      refine PK1.mono ?_
      rintro e wx' ⟨rfl, rfl⟩
      clear PK1 c0 c1 c2 c3 c4 c5 c6
      go_wp2_with fail
      refine PK2.mono ?_
      rintro e wx' ⟨rfl, rfl⟩
      clear PK2 hixk hwx hxb
      go_upto_block 2 with fail
      go_cut [5, 6, 7] (fun u5 u6 u7 W => ∃ (mn' mk' : Nat) (Rn' Rk' : Rcs) (tm' : List (Nat × DT)) (vm' : Value), vm' = u7 ∧ u5 = .map (some mn') ∧ u6 = .map (some mk') ∧ Hid (Mid w1 W d (4 + 3 * i) v xb ox mn' mk' vm' Rn' Rk' tm') ∧ Hid (tm'.length ≤ i + 2) ∧ Hid (∀ x ∈ tm', DOk x.2))
      case first =>
        by_cases h6 : q = 6 ∨ q = 7
        · rcases h6 with rfl | rfl
          all_goals
           as_aux_lemma =>
            have DR := VSx.out.drop (1 + p) (by omega)
            go_wp2_with fail
            refine DR.mono ?_
            rintro e w7 ⟨rfl, VS⟩
            have VS7 := hid VS
            have IM7 := hid (VS7.out.imap (g := mn) (D := Rn.data) (.inl List.mem_cons_self))
            clear DR VS VSx
            go_wp2_with (first | (at_delete; refine wpList_delete_im rfl _ rfl _ _ 32 3 rfl rfl 9 Tryz.underlying32 mn 4096 _ rfl IM7.out (1 + p) rfl (by omega) ?_) | fail)
            intro w8 IM8 X8
            have VS8 := hid (VS7.out.wrote (D' := (Rn.drop (1 + p)).data) X8 (by rw [strM_drop] at IM8; exact IM8) NEk.out XNE.out)
            clear IM7 IM8 X8 VS7
            go_wp2_with fail
            go_meet
            case rel => exact ⟨mn, mk, Rn.drop (1 + p), Rk, tm, _, rfl, rfl, rfl, hid (.inl ⟨VS8.out.le (by omega), NEk.out⟩), hid (by have := TLk.out; omega), TOk⟩
        by_cases h8 : q = 8 ∨ q = 9
        · rcases h8 with rfl | rfl
          all_goals
           as_aux_lemma =>
            have KE := VSx.out.keep (by omega)
            have OKN := hid VSx.out.okn
            have OKK := hid VSx.out.okk
            go_wp2_with fail
            refine KE.mono ?_
            rintro e w7 (⟨rfl, VS⟩ | ⟨rfl, VS⟩ | ⟨rfl, SS⟩)
            · have VS7 := hid VS
              clear KE VS VSx
              have CO := VS7.out.copied (g := mn) (D := Rn.data) (.inl List.mem_cons_self) OKN.out.data
              go_wp2_with fail
              refine CO.mono ?_
              rintro e w8 ⟨g, rfl, VS, -, hgs, -⟩
              have VS8 := hid VS
              have GNE := hid (show g ≠ mn by
                have h9 := VS7.out.lt (x := (mn, Rn.data)) (.inl List.mem_cons_self)
                simp only at h9
                omega)
              clear CO VS VS7 hgs
              obtain ⟨g9, c9, rfl, rw9, -, -⟩ := VS8.out.rowD
              have rwA := rw9.alloc (.cells #[.map (some g)] 32)
              have hTL := TLk.out
              clear rw9
              go_wp2_with (at_builtin; refine wpList_append_at (P := Tryz.prog) rfl _ _ 62 rfl 32 i0 (.map none) 1 8 Tryz.underlying62 hi0 hz0 hz1 hz2 rfl (by decide) g9 c9 tm.length (tm.map fun x => .map (some x.1)) rfl rwA ⟨w8.heap.size, 0, none⟩ 1 1 [.map (some g)] rfl rfl (row_new w8 #[.map (some g)] 32).news (fun u hu => by simp at hu; subst hu; rfl) ?c3 (by decide) ?_)
              case c3 => omega
              intro g' c' w10 O10 G10 P10 hc10
              have VS10 := hid (VS8.out.more (m := g) (D := Rn.data) (.inl List.mem_cons_self) O10 G10 P10 hc10)
              clear O10 G10 P10 rwA VS8
              have hT : (tm ++ [(g, Rn.data)]).map Prod.snd = tm.map Prod.snd ++ [Rn.data] := by simp
              have CO := VS10.out.copied (g := mn) (D := Rn.data) (.inl (List.mem_cons_of_mem _ List.mem_cons_self)) OKN.out.data
              go_wp2_with fail
              refine CO.mono ?_
              rintro e w11 ⟨g2, rfl, VS, -, hg2, -⟩
              have VS11 := hid VS
              have LT10 := hid (fun x hx => VS10.out.lt (x := x) hx)
              have HT := hid hT
              clear CO VS VS10 hT
              go_wp2_with fail
              go_meet
              case rel => exact ⟨mn, g2, Rn, Rn, tm ++ [(g, Rn.data)], _, rfl, rfl, rfl, hid (.inl ⟨by rw [HT.out]; exact (VS11.out.sub (fun x hx => by simp only [List.mem_cons, List.mem_nil_iff, or_false] at hx ⊢; rcases hx with h | h <;> simp [h])).le (by omega), fun x hx => by
                  have l0 := LT10.out (mn, Rn.data) (.inl (by simp))
                  simp only at l0
                  rcases hx with hx | hx
                  · obtain rfl := List.mem_singleton.1 hx
                    show g2 ≠ mn
                    omega
                  · rcases List.mem_append.1 hx with hx | hx
                    · exact NEk.out x (.inr hx)
                    · obtain rfl := List.mem_singleton.1 hx
                      show g ≠ mn
                      exact GNE.out⟩), hid (by rw [List.length_append]; have := TLk.out; simp; omega), hid (fun x hx => by
                  rcases List.mem_append.1 hx with hx | hx
                  · exact TOk.out x hx
                  · obtain rfl := List.mem_singleton.1 hx
                    exact OKN.out.data)⟩
            · have VS7 := hid VS
              clear KE VS VSx
              have CO := VS7.out.copied (g := mk) (D := Rk.data) (.inl (List.mem_cons_of_mem _ List.mem_cons_self)) OKK.out.data
              go_wp2_with fail
              refine CO.mono ?_
              rintro e w8 ⟨g, rfl, VS, -, hg2, -⟩
              have VS8 := hid VS
              have LT7 := hid (fun x hx => VS7.out.lt (x := x) hx)
              clear CO VS VS7
              go_wp2_with fail
              go_meet
              case rel => exact ⟨g, mk, Rk, Rk, tm, _, rfl, rfl, rfl, hid (.inl ⟨(VS8.out.sub (fun x hx => by simp only [List.mem_cons, List.mem_nil_iff, or_false] at hx ⊢; rcases hx with h | h <;> simp [h])).le (by omega), fun x hx => by
                  have := LT7.out x (hx.elim (fun h => .inl (List.mem_cons_of_mem _ h)) .inr)
                  omega⟩), hid (by have := TLk.out; omega), TOk⟩
            · have SS7 := hid SS
              clear KE SS VSx
              have CO := SS7.out.copied (g := mn) (D := Rn.data) (.inl List.mem_cons_self) OKN.out.data
              go_wp2_with fail
              refine CO.mono ?_
              rintro e w8 ⟨g, rfl, SS, -, -, hgl⟩
              have SS8 := hid SS
              clear CO SS SS7 hgl
              obtain ⟨g9, c9, rfl, rw9, -, -⟩ := SS8.out.rowD
              have rwA := rw9.alloc (.cells #[.map (some g)] 32)
              have hTL := TLk.out
              clear rw9
              go_wp2_with (at_builtin; refine wpList_append_at (P := Tryz.prog) rfl _ _ 62 rfl 32 i0 (.map none) 1 8 Tryz.underlying62 hi0 hz0 hz1 hz2 rfl (by decide) g9 c9 tm.length (tm.map fun x => .map (some x.1)) rfl rwA ⟨w8.heap.size, 0, none⟩ 1 1 [.map (some g)] rfl rfl (row_new w8 #[.map (some g)] 32).news (fun u hu => by simp at hu; subst hu; rfl) ?c3 (by decide) ?_)
              case c3 => omega
              intro g' c' w10 O10 G10 P10 hc10
              have SS10 := hid (SS8.out.more (m := g) (D := Rn.data) (.inl List.mem_cons_self) O10 G10 P10 hc10)
              clear O10 G10 P10 rwA SS8
              have hT : (tm ++ [(g, Rn.data)]).map Prod.snd = tm.map Prod.snd ++ [Rn.data] := by simp
              have CO := SS10.out.copied (g := mk) (D := Rk.data) (.inl (by simp)) OKK.out.data
              go_wp2_with fail
              refine CO.mono ?_
              rintro e w11 ⟨g2, rfl, SS, -, hg2, -⟩
              have SS11 := hid SS
              have HT := hid hT
              clear CO SS SS10 hT
              go_wp2_with fail
              go_meet
              case rel => exact ⟨g2, mk, Rk, Rk, tm ++ [(g, Rn.data)], _, rfl, rfl, rfl, hid (.inr (by rw [HT.out]; exact (SS11.out.sub (fun x hx => by cases hx)).le (by omega))), hid (by rw [List.length_append]; have := TLk.out; simp; omega), hid (fun x hx => by
                  rcases List.mem_append.1 hx with hx | hx
                  · exact TOk.out x hx
                  · obtain rfl := List.mem_singleton.1 hx
                    exact OKN.out.data)⟩
        by_cases h10 : q = 10
        · as_aux_lemma =>
            subst h10
            have UN := VSx.out.undo
            have OKK := hid VSx.out.okk
            go_wp2_with fail
            refine UN.mono ?_
            rintro e w7 ⟨rfl, VS⟩
            have VS7 := hid VS
            clear UN VS VSx
            have CO := VS7.out.copied (g := mk) (D := Rk.data) (.inl (List.mem_cons_of_mem _ List.mem_cons_self)) OKK.out.data
            go_wp2_with fail
            refine CO.mono ?_
            rintro e w8 ⟨g, rfl, VS, -, hg2, -⟩
            have VS8 := hid VS
            have LT7 := hid (fun x hx => VS7.out.lt (x := x) hx)
            clear CO VS VS7
            go_wp2_with fail
            go_meet
            case rel => exact ⟨g, mk, Rk, Rk, tm, _, rfl, rfl, rfl, hid (.inl ⟨(VS8.out.sub (fun x hx => by simp only [List.mem_cons, List.mem_nil_iff, or_false] at hx ⊢; rcases hx with h | h <;> simp [h])).le (by omega), fun x hx => by
                have := LT7.out x (hx.elim (fun h => .inl (List.mem_cons_of_mem _ h)) .inr)
                omega⟩), hid (by have := TLk.out; omega), TOk⟩
        by_cases h11 : q = 11
        · as_aux_lemma =>
            subst h11
            have SE := VSx.out.settle
            have OKK := hid VSx.out.okk
            go_wp2_with fail
            refine SE.mono ?_
            rintro e w7 (⟨rfl, VS⟩ | ⟨rfl, SS⟩)
            · have VS8 := hid (VS.one (m := mk) (D := Rk.data) (.inl (by simp)))
              clear SE VS VSx
              go_wp2_with fail
              go_meet
              case rel => exact ⟨mn, mk, Rn, Rk, [(mk, Rk.data)], _, rfl, rfl, rfl, hid (.inl ⟨VS8.out.le (by omega), fun x hx => NEk.out x (.inl (hx.elim id id))⟩), hid (by simp), hid (fun x hx => by obtain rfl := List.mem_singleton.1 hx; exact OKK.out.data)⟩
            · have SS8 := hid SS
              clear SE SS VSx
              go_wp2_with fail
              go_meet
              case rel => exact ⟨mn, mk, Rn, Rk, tm, _, rfl, rfl, rfl, hid (.inr ((SS8.out.sub (fun x hx => by cases hx)).le (by omega))), hid (by have := TLk.out; omega), TOk⟩
        by_cases h12 : q = 12
        · as_aux_lemma =>
            subst h12
            go_wp2_with fail
            go_meet
            case rel => exact ⟨mn, mk, Rn, Rk, tm, _, rfl, rfl, rfl, hid (.inl ⟨VSx.out.le (by omega), NEk.out⟩), hid (by have := TLk.out; omega), TOk⟩
        by_cases h13 : q = 13
        · as_aux_lemma =>
            subst h13
            obtain ⟨-, -, k2, -⟩ := CX.out wx VSx.out.ob
            have PK := pick_any y.n 30 wx HOK.out.b2 (by omega) (by omega)
            obtain ⟨pn, hpn⟩ : ∃ pn, y.n % 30 = pn := ⟨_, rfl⟩
            rw [hpn] at PK
            have BK := VSx.out.brk pn
            clear hpn
            go_wp2_with fail
            refine PK.mono ?_
            rintro e w7 ⟨rfl, rfl⟩
            clear PK
            go_wp2_with fail
            refine BK.mono ?_
            rintro e w7 ⟨rfl, VS⟩
            have VS7 := hid VS
            clear BK VS VSx
            go_wp2_with fail
            go_meet
            case rel => exact ⟨mn, mk, Rn, Rk, tm, _, rfl, rfl, rfl, hid (.inl ⟨VS7.out.le (by omega), NEk.out⟩), hid (by have := TLk.out; omega), TOk⟩
        as_aux_lemma =>
          have hq5 : 0 ≤ q ∧ q ≤ 5 := by omega
          have n6 : (q == 6) = false := by simp; omega
          have n7 : (q == 7) = false := by simp; omega
          have n8 : (q == 8) = false := by simp; omega
          have n9 : (q == 9) = false := by simp; omega
          have n10 : (q == 10) = false := by simp; omega
          have n11 : (q == 11) = false := by simp; omega
          have n12 : (q == 12) = false := by simp; omega
          have n13 : (q == 13) = false := by simp; omega
          obtain ⟨k0, k1, k2, k3, k4, k5, k6⟩ := CX.out wx VSx.out.ob
          have OKx := OKW.out wx VSx.out.since
          have BY := bytes6_any y wx OKx
          obtain ⟨bs, hbs⟩ : ∃ bs, bytesV y.id y.n y.bz = bs := ⟨_, rfl⟩
          have HBS := hid hbs
          have hbb : IsBytes bs := by rw [← hbs]; exact bytesV_bytes OKx.b.hbytes
          have hbl : bs.length ≤ 357 := by rw [← hbs]; exact bytesV_le _ _ _
          have HBB := hid hbb
          rw [hbs] at BY
          obtain ⟨bn, hbn⟩ : ∃ bn, bs.length = bn := ⟨_, rfl⟩
          have HBN := hid hbn
          rw [hbn] at BY hbl
          clear OKx hbs hbb hbn
          go_wp2_with fail
          refine BY.mono ?_
          rintro e w6 ⟨vb, rfl, o6, B6⟩
          clear BY
          obtain ⟨ba, bc, rfl, hbl2, -, -, brow, -, hbn0⟩ := row_of_owns o6
          have VS6 := hid (VSx.out.below B6)
          have PU := VS6.out.put (1 + p) (by omega) ba bn bc bs brow HBN.out (by omega) hbn0 HBB.out
          obtain ⟨c, hc⟩ : ∃ c, putC Rn (homes 90 30) false (1 + p) bn = c := ⟨_, rfl⟩
          rw [hc] at PU
          have HC := hid hc
          clear o6 B6 hbl2 brow hbn0 hc k0 k1 k2 k3 k4 k5 k6 VSx
          go_wp2_with fail
          refine PU.mono ?_
          rintro e w7 ⟨rfl, VS⟩
          have VS7 := hid VS
          clear PU VS VS6
          by_cases hc0 : c = 0
          · subst hc0
            have hPT := hid (show Rn.putted (homes 90 30) false (1 + p) bs = Rn.put (1 + p) (bs, Rn.nextT (1 + p) bs.length) from put_some (by rw [HBN.out]; exact HC.out))
            obtain ⟨k0, k1, k2, k3, k4, k5, k6⟩ := CX.out w7 VS7.out.ob
            have BY := bytes6_any y w7 (OKW.out w7 VS7.out.since)
            rw [HBS.out, HBN.out] at BY
            go_wp2_with fail
            refine BY.mono ?_
            rintro e w8 ⟨vb8, rfl, o8, B8'⟩
            clear BY
            obtain ⟨ba8, bc8, rfl, -, -, -, brow8, -, -⟩ := row_of_owns o8
            have CV := conv_row (P := Tryz.prog) Tryz.underlying27 Tryz.underlying5 Tryz.underlying9 bc8 brow8 HBN.out
            have VS8 := hid (VS7.out.below B8')
            have IM8 := hid (VS8.out.imap (g := mn) (D := Rn.data) (.inl List.mem_cons_self))
            clear o8 B8' brow8 k0 k1 k2 k3 k4 k5 k6 VS7
            go_wp2_with (first | (at_mapUpdate; refine wpList_mapUpdate_im rfl _ rfl _ _ _ 32 rfl 9 Tryz.underlying32 mn 4096 _ rfl IM8.out (by unfold maxLen; omega) (1 + p) (.string (strOfNums bs)) rfl rfl (by omega) ?_) | fail)
            intro w9 IM9 G9
            have VS9 := hid (VS8.out.wrote (D' := (Rn.putted (homes 90 30) false (1 + p) bs).data) (Ext.of_grown' G9) (strM_small (n := 4096 + 1) VS8.out.okn.data (by rw [hPT.out, ← strM_put]; exact IM9)) NEk.out XNE.out)
            clear IM9 G9 VS8 IM8
            go_wp2_with fail
            go_meet
            case rel => exact ⟨mn, mk, _, Rk, tm, _, rfl, rfl, rfl, hid (.inl ⟨VS9.out.le (by omega), NEk.out⟩), hid (by have := TLk.out; omega), TOk⟩
          · have hcz : (c == 0) = false := by simp [hc0]
            have hPT := hid (show Rn.putted (homes 90 30) false (1 + p) bs = Rn from put_none (by rw [HBN.out, HC.out]; exact hc0))
            go_wp2_with fail
            go_meet
            case rel => exact ⟨mn, mk, Rn, Rk, tm, _, rfl, rfl, rfl, hid (.inl ⟨by have h9 := VS7.out; rw [hPT.out] at h9; exact h9.le (by omega), NEk.out⟩), hid (by have := TLk.out; omega), TOk⟩
      case rest =>
        clear VSx NEk TLk TOk XNE
        obtain ⟨mn', mk', Rn', Rk', tm', vm', rfl, rfl, rfl, MI, TL, TO⟩ := hcut
        have hcase : (Hid (VStay w1 wc d 90 30 (4 + 3 * i) v Rn' Rk' (tm'.map Prod.snd) [(mn', Rn'.data), (mk', Rk'.data)] vm' tm' [(xb, ox)]) ∧ Hid (∀ x, x ∈ [(mk', Rk'.data)] ∨ x ∈ tm' → x.1 ≠ mn') ∧ q ≠ 12) ∨ (Hid (SStay w1 wc d 90 30 (4 + 3 * i) false (tm'.map Prod.snd) [] vm' tm' [(xb, ox)]) ∧ q = 12) ∨ Hid (SStay w1 wc d 90 30 (4 + 3 * i) true (tm'.map Prod.snd) [] vm' tm' [(xb, ox)]) := by
          rcases MI.out with ⟨h3, h4⟩ | h3
          · by_cases h12 : q = 12
            · exact .inr (.inl ⟨hid (h3.saf.sub (fun x hx => by cases hx)), h12⟩)
            · exact .inl ⟨hid h3, hid h4, h12⟩
          · exact .inr (.inr (hid h3))
        clear MI
        rcases hcase with ⟨VS5, NE5, h12⟩ | ⟨SS5, rfl⟩ | SS5
        · have BR := VS5.out.broken
          have hq12 : (q == 12) = false := by simp [h12]
          go_wp2_with fail
          refine BR.mono ?_
          rintro e wq ⟨rfl, rfl⟩
          clear BR
          go_wp2_with fail
          go_roundw
          case measure => first | (simp [intOf]; done) | (simp [intOf]; omega)
          case rel => exact ⟨i + 1, v, mn', mk', Rn', Rk', tm', vm', rfl, rfl, rfl, rfl, by go_num, by omega, by omega, hid (VS5.out.noObj.le (by omega)), NE5, hid (by have := TL.out; omega), TO⟩
        all_goals
          have BR := SS5.out.broken
          go_wp2_with fail
          refine BR.mono ?_
          rintro e wq ⟨rfl, rfl⟩
          clear BR
          as_aux_lemma =>
            obtain ⟨-, -, k2, k3, k4, -, k6⟩ := CX.out _ SS5.out.ob
            have KA := (OKW.out _ SS5.out.since).keep
            have FA := SS5.out.fall (by rw [eH]; omega) y.ka y.kl y.kc y.kz (y.torn.tmod 20) (y.cut.tmod 98) KA (fun h0 => KOX.out h0)
            clear KA
            go_wp2_with fail
            refine FA.mono ?_
            rintro e w7 ⟨rfl, R7, hR7, FS⟩
            have FS7 := hid FS
            have HR7 := hid hR7
            clear FA FS SS5 k2 k3 k4 k6 hR7
            obtain ⟨-, -, k2, -⟩ := CX.out _ FS7.out.ob
            go_upto_if 141 with fail
            go_cut [] (fun W => ∃ R : Rcs, Hid (R.data ∈ tm'.map Prod.snd) ∧ Hid (FStay w1 W d 90 30 (5 + 3 * i) true R [] vm' tm' [(xb, ox)]))
            case first =>
              by_cases hn4 : y.n.tmod 4 = 0
              · obtain ⟨xd, hxd⟩ : ∃ xd, y.n.tdiv 4 = xd := ⟨_, rfl⟩
                have hyn : -9223372036854775808 ≤ y.n ∧ y.n ≤ 9223372036854775807 := HOK.out.b2
                have hdb : -9223372036854775808 ≤ xd ∧ xd ≤ 9223372036854775807 := by
                  have h1 := Int.mul_tdiv_add_tmod y.n 4
                  rw [hxd, hn4] at h1
                  omega
                have PK := pick_any xd 25 w7 hdb (by omega) (by omega)
                obtain ⟨pn, hpn⟩ : ∃ pn, xd % 25 = pn := ⟨_, rfl⟩
                rw [hpn] at PK
                have BK := FS7.out.brk pn
                have hwd : IntKind.i64.wrap xd = xd := IntWalk.i64_in _ (by omega)
                clear hpn
                go_wp2_with fail
                refine PK.mono ?_
                rintro e w8 ⟨rfl, rfl⟩
                clear PK
                go_wp2_with fail
                refine BK.mono ?_
                rintro e w8 ⟨rfl, FS⟩
                have FS8 := hid FS
                clear BK FS FS7
                have OP := FS8.out.tryOpen (by omega)
                go_wp2_with fail
                refine OP.mono ?_
                rintro e w9 ⟨⟨u9, rfl⟩, bk, SS⟩
                have SS9 := hid SS
                clear OP SS FS8 k2
                obtain ⟨-, -, k2, k3, k4, -, k6⟩ := CX.out _ SS9.out.ob
                have KA := (OKW.out _ SS9.out.since).keep
                have FA := SS9.out.fall (by rw [eH]; omega) y.ka y.kl y.kc y.kz (y.torn.tmod 20) (y.cut.tmod 98) KA (fun h0 => KOX.out h0)
                clear KA
                go_wp2_with fail
                refine FA.mono ?_
                rintro e w10 ⟨rfl, R10, hR10, FS⟩
                have FS10 := hid FS
                have HR10 := hid hR10
                clear FA FS SS9 hR10
                go_wp2_with fail
                go_meet
                case rel => exact ⟨R10, hid (by rw [List.mem_singleton.1 HR10.out]; exact HR7.out), hid (FS10.out.le (by omega))⟩
              · go_wp2_with fail
                go_meet
                case rel => exact ⟨R7, HR7, hid (FS7.out.le (by omega))⟩
            case rest =>
              clear FS7 HR7 k2
              obtain ⟨R, HR, FS8⟩ := hcut
              have OP := FS8.out.opened (by omega) (by rw [eH]; omega)
              go_wp2_with fail
              refine OP.mono ?_
              rintro e w9 ⟨v9, rfl, VS⟩
              have VS9 := hid VS
              clear OP VS FS8
              obtain ⟨g9, c9, rfl, rw9, -, -⟩ := VS9.out.rowD
              clear rw9
              obtain ⟨tl, htl⟩ : ∃ tl, tm'.length = tl := ⟨_, rfl⟩
              rw [htl]
              have HTL := hid htl
              have tlb : tl ≤ 38 := by have h9 := TL.out; omega
              have NN : Hid (∃ (j : Nat) (x : Nat × DT), j < tl ∧ tm'[j]? = some x ∧ x.2 = R.data) := hid (by
                obtain ⟨x, hx, e⟩ := List.mem_map.1 HR.out
                obtain ⟨j, hj⟩ := List.getElem?_of_mem hx
                exact ⟨j, x, by rw [← HTL.out]; exact (List.getElem?_eq_some_iff.1 hj).1, hj, e⟩)
              clear htl
              have hixM := hid (fun (c : Nat) (k : Nat) (hk : k < tl) => idx_at1 (P := Tryz.prog) (T := 62) Tryz.underlying62 szMs (cap := c) (a := some ⟨g9, 0, none⟩) (fun _ => rfl) hk)
              go_wp2_with fail
              go_loopw [15] (fun u15 wr => ∃ kk : Nat, u15 = .int .i64 ((kk : Int) - 1) ∧ kk ≤ tl ∧ Hid (VStay w1 wr d 90 30 (6 + 3 * i) v9 R R [R.data] [] (.slice (some ⟨g9, 0, none⟩) tl c9) tm' [(xb, ox)]) ∧ Hid (∀ (j : Nat) (x : Nat × DT), kk ≤ j → tm'[j]? = some x → sameD x.2 R = false)) (fun u15 _ => ((intOf u15) + 1).toNat)
              case atStart => exact ⟨tl, by go_num, Nat.le_refl _, hid (by have h9 := VS9.out; rw [HTL.out] at h9; exact h9.le (by omega)), hid (fun j x hj hx => by
                have h9 := (List.getElem?_eq_some_iff.1 hx).1
                rw [HTL.out] at h9
                omega)⟩
              case round =>
                clear VS9
                obtain ⟨kk, rfl, hkk, VSr, FAL⟩ := hrel
                obtain ⟨k, rfl⟩ : ∃ k, kk = k + 1 := by
                  cases kk with
                  | zero =>
                    exfalso
                    obtain ⟨j, x, -, h3, h4⟩ := NN.out
                    have h5 := FAL.out j x (Nat.zero_le _) h3
                    rw [sameD_true (fun i => by rw [h4])] at h5
                    cases h5
                  | succ k => exact ⟨k, rfl⟩
                have hk1 : (((k + 1 : Nat) : Int) - 1) = (k : Int) := by omega
                rw [hk1]
                have hkt : k < tl := hkk
                obtain ⟨x, hx⟩ : ∃ x, tm'[k]? = some x := ⟨_, List.getElem?_eq_getElem (by rw [HTL.out]; exact hkt)⟩
                have HXk := hid hx
                have hxm := List.mem_of_getElem? hx
                have HXM := hid hxm
                obtain ⟨g8, c8, e8, rw8, -, -⟩ := VSr.out.rowD
                have cM : wr.cell? ⟨g9, k, none⟩ = some (.map (some x.1)) := by
                  have h9 := rw8.cells (g := g8) (by rw [e8]; rfl) k (.map (some x.1)) (by rw [List.getElem?_map, hx]; rfl)
                  simp only [Value.slice.injEq, Option.some.injEq, Addr.mk.injEq] at e8
                  rw [← e8.1.1, add_eq, Nat.zero_add] at h9
                  exact h9
                have hixk : ∀ W, (Instr.indexAt 62 (.slice (some ⟨g9, 0, none⟩) tl c9) (.int .i64 (k : Int))).run Tryz.prog W = .ok (.pointer (some ⟨g9, k, none⟩)) W := fun W => by
                  have h9 := hixM.out c9 k hkt W
                  simpa [sB, sO] using h9
                have IS := VSr.out.is (g := x.1) (D := x.2) (.inr hxm) (TO.out x hxm)
                obtain ⟨bb, hbb⟩ : ∃ bb, sameD x.2 R = bb := ⟨_, rfl⟩
                rw [hbb] at IS
                have HBB := hid hbb
                have hk0 : (0 : Int) ≤ (k : Int) := by omega
                clear hx hxm e8 rw8 hbb
                go_wp2_with fail
                refine IS.mono ?_
                rintro e w10 ⟨rfl, VS⟩
                have VS10 := hid VS
                clear IS VS VSr
                cases bb with
                | false =>
                  go_wp2_with fail
                  go_roundw
                  case measure => first | (simp [intOf]; done) | (simp [intOf]; omega)
                  case rel => exact ⟨k, by go_num, by omega, VS10, hid (fun j z hj hz => by
                    by_cases e : j = k
                    · subst e
                      have h9 := HXk.out
                      rw [hz] at h9
                      obtain rfl := Option.some.inj h9
                      exact HBB.out
                    · exact FAL.out j z (by omega) hz)⟩
                | true =>
                  have hD := hid (show x.2 = R.data from funext (sameD_of (TO.out x HXM.out) VS10.out.okn HBB.out))
                  have cM : w10.cell? ⟨g9, k, none⟩ = some (.map (some x.1)) := by
                    obtain ⟨g8, c8, e8, rw8, -, -⟩ := VS10.out.rowD
                    have h9 := rw8.cells (g := g8) (by rw [e8]; rfl) k (.map (some x.1)) (by rw [List.getElem?_map, HXk.out]; rfl)
                    simp only [Value.slice.injEq, Option.some.injEq, Addr.mk.injEq] at e8
                    rw [← e8.1.1, add_eq, Nat.zero_add] at h9
                    exact h9
                  have hk2 : decide ((k : Int) < 0) = false := decide_eq_false (by omega)
                  have CO := VS10.out.copied (g := x.1) (D := x.2) (.inr HXM.out) (TO.out x HXM.out)
                  go_wp2_with fail
                  refine CO.mono ?_
                  rintro e w11 ⟨m1, rfl, VS, -, hm1, hm1l⟩
                  have VS11 := hid VS
                  clear CO VS VS10 cM
                  have CO := VS11.out.copied (g := m1) (D := x.2) (.inl List.mem_cons_self) (TO.out x HXM.out)
                  go_wp2_with fail
                  refine CO.mono ?_
                  rintro e w12 ⟨m2, rfl, VS, -, hm2, -⟩
                  have VS12 := hid (VS.one (m := m1) (D := x.2) (.inl (List.mem_cons_of_mem _ List.mem_cons_self)))
                  clear CO VS VS11
                  go_wp2_with fail
                  go_roundw
                  case measure => first | (simp [intOf]; done) | (simp [intOf]; omega)
                  case rel => exact ⟨i + 1, v9, m2, m1, R, R, [(m1, R.data)], _, rfl, rfl, rfl, rfl, by go_num, by omega, by omega, hid (by have h9 := VS12.out; rw [hD.out] at h9; exact h9.noObj.le (by omega)), hid (fun z hz => by
                    have : z = (m1, R.data) := hz.elim List.mem_singleton.1 List.mem_singleton.1
                    subst this
                    show m1 ≠ m2
                    omega), hid (by simp), hid (fun z hz => by obtain rfl := List.mem_singleton.1 hz; have h9 := TO.out x HXM.out; rw [hD.out] at h9; exact h9)⟩
    · have BF := HB1.out.trans (VSk.out.since.mono HB1.out.size)
      by_cases h1 : i < len0
      · obtain rfl : i = 36 := by omega
        have h3 : (36 : Int) < (len0 : Int) := by omega
        go_wp2_with fail
        go_ret
        exact ⟨rfl, BF⟩
      · obtain rfl : i = len0 := by omega
        go_wp2_with fail
        go_ret
        exact ⟨rfl, BF⟩

end Go.Proofs.YtleoelhhndeheaaGreat
