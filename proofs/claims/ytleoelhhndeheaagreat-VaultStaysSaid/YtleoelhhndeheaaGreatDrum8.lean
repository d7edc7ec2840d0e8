/- package drum: Fall, the walk -/
import Derived.Test.YtleoelhhndeheaaGreatDrum7
open Go Go.RowKit
namespace Go.Proofs.YtleoelhhndeheaaGreat

theorem Trk.at {w : World} {M : Dom} {a : Addr} {c : Nat} {zs : List Int} (h : Trk w M (.slice (some a) 96 c) zs) : ∃ b o, a = ⟨b, o, none⟩ ∧ Row w (some ⟨b, o, none⟩) (B8 zs) ∧ zs.length = 96 ∧ IsBytes zs ∧ b < w.heap.size ∧ ¬ (M b ∨ M.X b) ∧ 96 ≤ c := by
  obtain ⟨a', c', e, h1, h2, h3, h4, h5⟩ := h
  cases e
  have e := h1.nn (by simp; omega)
  rw [Option.some.injEq] at e
  exact ⟨_, _, e, e ▸ h1, h2, h4, h1.blk0 (by simp; omega), h3, h5⟩

def fellW (w2 : World) (d g n c' : Nat) : World :=
  ((((w2.setCell ⟨d, 1, none⟩ (.slice (some ⟨g, 0, none⟩) n c')).setCell ⟨d, 2, none⟩ (.slice none 0 0)).setCell ⟨d, 3, none⟩ (.pointer none)).setCell ⟨d, 4, none⟩ (.pointer (some ⟨w2.heap.size, 0, none⟩))).alloc (.cells #[.int .u32 0] 107)
/-- what a fall leaves, once the tracks are done -/
theorem DrumP.fell {wr w2 : World} {M : Dom} {p : DP} {s : DS} {g c' : Nat} (P : DrumP wr M p s) (hg : wr.heap.size ≤ g) (K2 : HT w2 (M.add g) g c' s.n s.kept) (B2 : Below wr.heap.size wr w2) :
    DrumP (fellW w2 p.d g s.n c') ((M.add g).add w2.heap.size) ⟨p.d, p.kb, p.kc, g, c', .slice none 0 0, .pointer none, w2.heap.size, p.tb⟩ { s with now := s.kept, up := [], fuse := none, broken := false } ∧
      Step M wr ((M.add g).add w2.heap.size) (fellW w2 p.d g s.n c') := by
  have hs2 := B2.size
  have hdr := lt_of_blk P.obj
  have ho2 := (B2.block p.d hdr).trans P.obj
  have X : Ext (· = p.d) w2 ((((w2.setCell ⟨p.d, 1, none⟩ (.slice (some ⟨g, 0, none⟩) s.n c')).setCell ⟨p.d, 2, none⟩ (.slice none 0 0)).setCell ⟨p.d, 3, none⟩ (.pointer none)).setCell ⟨p.d, 4, none⟩ (.pointer (some ⟨w2.heap.size, 0, none⟩))) :=
    ((Ext.set.trans Ext.set (fun _ _ h => h)).trans Ext.set (fun _ _ h => h)).trans Ext.set (fun _ _ h => h)
  have ho4 := blk_setCell (o := 4) (blk_setCell (o := 3) (blk_setCell (o := 2) (blk_setCell (o := 1) ho2 (.slice (some ⟨g, 0, none⟩) s.n c')) (.slice none 0 0)) (.pointer none)) (.pointer (some ⟨w2.heap.size, 0, none⟩))
  unfold fellW
  obtain ⟨W4, hW4⟩ : ∃ W4, (((w2.setCell ⟨p.d, 1, none⟩ (.slice (some ⟨g, 0, none⟩) s.n c')).setCell ⟨p.d, 2, none⟩ (.slice none 0 0)).setCell ⟨p.d, 3, none⟩ (.pointer none)).setCell ⟨p.d, 4, none⟩ (.pointer (some ⟨w2.heap.size, 0, none⟩)) = W4 := ⟨_, rfl⟩
  have hs4 : W4.heap.size = w2.heap.size := by rw [← hW4]; simp
  rw [hW4] at X ho4 ⊢
  have md : ((M.add g).add w2.heap.size) p.d := .inl (.inl P.md)
  have hX : ∀ q, q = p.d → ((M.add g).add w2.heap.size) q := fun q hq => by subst hq; exact md
  have Q1 := (P.q.to (M' := (M.add g).add w2.heap.size) (fun q hq => hq.elim (fun h => h.imp id (fun h => by omega)) (fun h => .inr (by omega))) (fun q hq _ => .inl (.inl hq))).below B2
  have Q3 := Q1.ext ho2 md X
  obtain ⟨cur, hcur⟩ := K2.blk
  have K4 := (K2.to (M' := (M.add g).add w2.heap.size) (fun q hq => hq.imp id (fun h => by omega)) (.inl (.inr rfl))).ext X hX (blk_ne hcur ho2 (by decide))
  have BA : Below W4.heap.size W4 (W4.alloc (.cells #[.int .u32 0] 107)) := (Below.refl _ _).alloc (Nat.le_refl _) _
  have fl := blk_at (w := W4) (.cells #[.int .u32 0] 107) hs4.symm
  have Q5 := Q3.below BA
  have K5 := K4.ext (Ext.of_below BA (fun _ => False)) (fun _ h => h.elim) id
  have gw := K2.lt
  have kw := P.kept.lt
  have hs5 : (W4.alloc (.cells #[.int .u32 0] 107)).heap.size = w2.heap.size + 1 := by simp [hs4]
  have Q4 : DrumQ (W4.alloc (.cells #[.int .u32 0] 107)) ((M.add g).add w2.heap.size) ⟨p.d, p.kb, p.kc, g, c', .slice none 0 0, .pointer none, w2.heap.size, p.tb⟩ { s with now := s.kept, up := [], fuse := none, broken := false } :=
    ⟨.inr rfl, Q5.mt, Q5.kept, K5, fun e => by have e : p.kb = g := e; omega, UpAt.nil _ _ _, rfl, fl, Q5.turns, Q5.t0, Q5.t1, Q5.n0, Q5.n1, Nat.zero_le _⟩
  refine ⟨DrumQ.p Q4 md ?_ ?_ (blk_old _ ho4), ⟨((Ext.of_below B2 M).trans (X.mono (fun q _ hq => by subst hq; exact P.md)) (fun _ _ h => h)).alloc _, fun q hq => ?_, rfl⟩⟩
  · intro q hq
    rcases hq with (hq | hq) | hq
    · have := P.ml q hq; omega
    · omega
    · omega
  · intro q hq
    have := P.xl q hq; omega
  · rcases hq with (hq | hq) | hq
    · exact .inl hq
    · exact .inr (by omega)
    · exact .inr (by omega)

set_option maxRecDepth 100000 in
set_option maxHeartbeats 1000000 in
theorem fall_any {w : World} {M : Dom} {d : Nat} {s : DS} (h : DrumAt w M d s) (ka : Option Addr) (kl kc : Nat) (keep : List Int) (torn cut : Int) (hK : IntsAt w ka kl kc keep) (hKM : 0 < kl → ¬ M (sB ka)) :
    Calls Tryz.prog 39 #[.pointer (some ⟨d, 0, none⟩), .slice ka kl kc, .int .i64 torn, .int .i64 cut] w fun e w' => e = .returned (.tuple #[]) ∧ ∃ M', DrumAt w' M' d (s.fall keep torn cut) ∧ Step M w M' w' := by
  obtain ⟨p, rfl, h⟩ := h
  obtain ⟨q, hq1, hq2⟩ : ∃ q : Int, min cut 96 = q ∧ max 0 q = (cutOf cut : Int) := ⟨_, rfl, by unfold cutOf; omega⟩
  have hc96 : cutOf cut ≤ 96 := by unfold cutOf; omega
  have HFD : s.fall keep torn cut = { s with kept := s.fallTo keep torn (cutOf cut) s.up.length, now := s.fallTo keep torn (cutOf cut) s.up.length, up := [], fuse := none, broken := false } := rfl
  obtain ⟨sf, hsf⟩ : ∃ sf, s.fall keep torn cut = sf := ⟨_, rfl⟩
  rw [hsf] at HFD ⊢
  obtain ⟨c, hc⟩ : ∃ c, cutOf cut = c := ⟨_, rfl⟩
  rw [hc] at hq2 hc96 HFD
  have HFD2 := hid HFD
  obtain ⟨-, -, c2, -⟩ := h.cells
  obtain ⟨aa, ac, hav⟩ := h.up.slice
  rw [hav] at c2
  have hlu := h.u1
  obtain ⟨L, hL⟩ : ∃ L, s.up.length = L := ⟨_, rfl⟩
  rw [hL] at c2 hav hlu
  have HL := hid hL
  have HAV := hid hav
  have H0 := hid h
  have HKM := hid hKM
  have HK := hid hK
  clear h hc hsf hL hav HFD
  go_enter Tryz.func39, Tryz.ntmps39
  go_wp2_with fail
  go_loopw [16] (fun v wr => ∃ k : Nat, v = .int .i64 k ∧ k ≤ L ∧ Hid (DrumP wr M p { s with kept := s.fallTo keep torn c k }) ∧ Ext M w wr) (fun v _ => L - (intOf v).toNat)
  case atStart => exact ⟨0, rfl, Nat.zero_le _, hid H0.out, Ext.refl _ _⟩
  case round =>
    obtain ⟨k, rfl, hk, HP, X⟩ := hrel
    have hsX := X.size
    by_cases hkL : k < L
    · have hkl : k < s.up.length := by rw [HL.out]; exact hkL
      obtain ⟨g, cg, a, cc, hg, k1, k2, k3, TR⟩ := HP.out.up.get hkl
      have hg := HAV.out.symm.trans hg
      obtain ⟨rfl, rfl⟩ : aa = some ⟨g, 0, none⟩ ∧ ac = cg := by cases hg; exact ⟨rfl, rfl⟩
      clear hg
      simp only at k1 k2 k3 TR
      have HG : s.up[k]?.getD (0, []) = s.up[k] := by rw [List.getElem?_eq_getElem hkl]; rfl
      have hstep : s.fallTo keep torn c (k + 1) = fallOne keep torn c (s.fallTo keep torn c k) k s.up[k] := by rw [← HG]; rfl
      obtain ⟨⟨at', zs⟩, hx⟩ : ∃ x, s.up[k] = x := ⟨_, rfl⟩
      rw [hx] at k1 k3 TR hstep
      simp only at k1 k3 TR
      obtain ⟨ab, ao, rfl, trow, tlen, tby, tlt, tM, tcc⟩ := TR.at
      have HST := hid hstep
      have TR := hid TR
      have CT := contains_any ka kl kc keep k ((wr.alloc (.cells #[.int .i64 (at' : Int), .slice (some ⟨ab, ao, none⟩) 96 cc] 92))) ((HK.out.ext X HKM.out).below ((Below.refl _ wr).alloc (Nat.le_refl _) _) (Nat.le_refl _))
      obtain ⟨W1, hW1⟩ : ∃ W1, wr.alloc (.cells #[.int .i64 (at' : Int), .slice (some ⟨ab, ao, none⟩) 96 cc] 92) = W1 := ⟨_, rfl⟩
      rw [hW1] at CT
      have BW : Below wr.heap.size wr W1 := by rw [← hW1]; exact (Below.refl _ wr).alloc (Nat.le_refl _) _
      have l1 : W1.heap[wr.heap.size]? = some (.cells #[.int .i64 (at' : Int), .slice (some ⟨ab, ao, none⟩) 96 cc] 92 (0, 0)) := by rw [← hW1]; exact blk_new _ _
      clear hx hstep HG
      have P1 := HP.out.below BW
      have T1 := TR.out.ext (Ext.of_below BW (fun _ => False)) (fun _ h => h.elim)
      have P1d := P1.below (Below.refl _ W1).drew
      have T1d := T1.ext (Ext.refl (fun _ => False) W1).drew (fun _ h => h.elim)
      obtain ⟨l8, hl8⟩ : ∃ l8, wr.heap.size = l8 := ⟨_, rfl⟩
      rw [hl8] at l1
      have X1 : Ext M w W1 := X.trans (Ext.of_below BW _) (fun _ _ h => h)
      have d0 : W1.cell? ⟨p.d, 0, none⟩ = some (.slice (some ⟨p.kb, 0, none⟩) s.n p.kc) := P1.cells.1
      have e0 : W1.cell? ⟨l8, 0, none⟩ = some (.int .i64 (at' : Int)) := blk_cell l1 rfl
      have e1 : W1.cell? ⟨l8, 1, none⟩ = some (.slice (some ⟨ab, ao, none⟩) 96 cc) := blk_cell l1 rfl
      obtain ⟨⟨ob, oo, osp⟩, oc, o0, OT⟩ := P1.kept.cell k3
      have fz := P1.kept.free at'
      simp only at OT o0
      have P1 := hid P1
      have P1d := hid P1d
      have T1d := hid T1d
      have OT := hid OT
      clear T1
      by_cases hin : (k : Int) ∈ keep
      · rw [show decide ((k : Int) ∈ keep) = true by simpa using hin] at CT
        have hK1 := hid (show s.fallTo keep torn c (k + 1) = upd (s.fallTo keep torn c k) at' zs by rw [HST.out]; unfold fallOne; rw [if_pos hin])
        clear hin
        go_wp2_with fail
        refine CT.mono ?_
        rintro e w2 ⟨rfl, rfl⟩
        go_wp2_with fail
        go_still_tail 9, (by kernel_rfl)
        change wpList _ _ _ _ _ W1.drew
        go_wp2_with fail
        go_roundw
        case measure => simp [intOf]; omega
        case rel =>
          refine ⟨k + 1, by go_num, by omega, hid ?_, X1.drew.trans (Ext.set.mono (fun q _ hq => by subst hq; exact H0.out.kept.may)) (fun _ _ h => h)⟩
          rw [hK1.out]
          exact P1d.out.setKept T1d.out
      · rw [show decide ((k : Int) ∈ keep) = false by simpa using hin] at CT
        by_cases hkt : (k : Int) = torn
        · subst hkt
          have hK1 := hid (show s.fallTo keep k c (k + 1) = upd (s.fallTo keep k c k) at' (zs.take c ++ (s.fallTo keep k c k at').drop c) by rw [HST.out]; unfold fallOne; rw [if_neg hin, if_pos rfl])
          obtain ⟨_, _, he, orow, olen, oby, olt, oM, occ⟩ := OT.out.at
          cases he
          have k96 : (0 : Int) ≤ (c : Int) := by omega
          have k97 : (c : Int) ≤ 96 := by omega
          have k98 : (c : Int) ≤ (cc : Int) := by omega
          have k99 : (c : Int) ≤ (oc : Int) := by omega
          have kk1 : (96 : Int) ≤ (oc : Int) := by omega
          have kk2 : c ≤ cc := by omega
          have kk3 : c ≤ oc := by omega
          have S0 : W1.drew.cell? ⟨p.d, 0, none⟩ = some (.slice (some ⟨p.kb, 0, none⟩) s.n p.kc) ∧ W1.drew.cell? ⟨l8, 0, none⟩ = some (.int .i64 (at' : Int)) ∧ W1.drew.cell? ⟨l8, 1, none⟩ = some (.slice (some ⟨ab, ao, none⟩) 96 cc) := ⟨d0, e0, e1⟩
          have hd1 : p.d < W1.heap.size := lt_of_cell d0
          have hl1 : l8 < W1.heap.size := lt_of_cell e0
          have hb1 : p.kb < W1.heap.size := lt_of_cell o0
          obtain ⟨oa2, hoa2⟩ : ∃ x : Option Addr, (if oc = c then some ⟨ob, oo, none⟩ else some ⟨ob, oo + c, none⟩) = x := ⟨_, rfl⟩
          have hrow2 : Row W1 oa2 (B8 ((s.fallTo keep k c k at').drop c)) := by
            rw [← hoa2]
            split
            · have : (s.fallTo keep k c k at').drop c = [] := List.drop_eq_nil_of_le (by omega)
              rw [this]
              exact Row.nil _ _
            · have := orow.drop c
              simpa [B8, List.map_drop] using this
          have hnn2 : oa2 = none → False := by rw [← hoa2]; split <;> simp
          have S5 : ∀ o, (W1.drew.alloc o).cell? ⟨p.d, 0, none⟩ = some (.slice (some ⟨p.kb, 0, none⟩) s.n p.kc) ∧ (W1.drew.alloc o).cell? ⟨l8, 0, none⟩ = some (.int .i64 (at' : Int)) ∧ (W1.drew.alloc o).cell? ⟨l8, 1, none⟩ = some (.slice (some ⟨ab, ao, none⟩) 96 cc) := fun o => ⟨cell_alloc (w := W1.drew) o d0, cell_alloc (w := W1.drew) o e0, cell_alloc (w := W1.drew) o e1⟩
          have S9 : ∀ (W : World) (x : Addr) (v : Value) {u : Value}, W.cell? x = some u → p.kb ≠ x.block → (W.setCell ⟨p.kb, at', none⟩ v).cell? x = some u := fun W x v u h1 h2 => (World.cell?_setCell_far W _ x v h2).trans h1
          have hk1 : p.kb ≠ p.d := by
            obtain ⟨cur, hcur⟩ := P1.out.kept.blk
            exact blk_ne hcur P1.out.obj (by decide)
          have hk2 : p.kb ≠ l8 := by
            obtain ⟨cur, hcur⟩ := P1.out.kept.blk
            exact blk_ne hcur l1 (by decide)
          have S6 : ∀ w8, Below (W1.drew.alloc (.cells #[.slice (some ⟨ab, ao, none⟩) c cc, .slice oa2 (96 - c) (oc - c)] 27)).heap.size (W1.drew.alloc (.cells #[.slice (some ⟨ab, ao, none⟩) c cc, .slice oa2 (96 - c) (oc - c)] 27)) w8 → w8.cell? ⟨p.d, 0, none⟩ = some (.slice (some ⟨p.kb, 0, none⟩) s.n p.kc) ∧ w8.cell? ⟨l8, 0, none⟩ = some (.int .i64 (at' : Int)) ∧ w8.cell? ⟨l8, 1, none⟩ = some (.slice (some ⟨ab, ao, none⟩) 96 cc) ∧
            w8.cell? ⟨p.kb, at', none⟩ = some (.slice (some ⟨ob, oo, none⟩) 96 oc) ∧ w8.frozen? ⟨p.kb, at', none⟩ = false := fun w8 B => by
            obtain ⟨q1, q2, q3⟩ := S5 (.cells #[.slice (some ⟨ab, ao, none⟩) c cc, .slice oa2 (96 - c) (oc - c)] 27)
            have q4 := cell_alloc (w := W1.drew) (.cells #[.slice (some ⟨ab, ao, none⟩) c cc, .slice oa2 (96 - c) (oc - c)] 27) o0
            have q5 := free_alloc (w := W1.drew) (.cells #[.slice (some ⟨ab, ao, none⟩) c cc, .slice oa2 (96 - c) (oc - c)] 27) hb1 fz
            exact ⟨Below.cellAt B (by simp; omega) q1, Below.cellAt B (by simp; omega) q2, Below.cellAt B (by simp; omega) q3, Below.cellAt B (by simp; omega) q4, (World.frozen?_of_block (a := ⟨p.kb, at', none⟩) (B.block p.kb (by simp; omega))).trans q5⟩
          have FC := concat_any (some ⟨W1.heap.size, 0, none⟩) 2 2 [⟨some ⟨ab, ao, none⟩, cc, zs.take c⟩, ⟨oa2, oc - c, (s.fallTo keep k c k at').drop c⟩] (W1.drew.alloc (.cells #[.slice (some ⟨ab, ao, none⟩) c cc, .slice oa2 (96 - c) (oc - c)] 27))
            (by
              have h1 : (zs.take c).length = c := by rw [List.length_take]; omega
              have h2 : ((s.fallTo keep k c k at').drop c).length = 96 - c := by rw [List.length_drop]; omega
              simp only [List.map_cons, List.map_nil, Pt.val, h1, h2]
              exact row_new W1.drew _ _) rfl (by omega) (fun pt hpt => by
              simp only [List.mem_cons, List.not_mem_nil, or_false] at hpt
              have hrw := (TR.out.ext (Ext.of_below BW (fun _ => False)) (fun _ h => h.elim)).at
              obtain ⟨_, _, he2, trow2, -⟩ := hrw
              cases he2
              rcases hpt with rfl | rfl
              · exact ⟨by have := ((trow2.take c).below (Below.refl _ _).drew (Nat.le_refl _)).alloc (.cells #[.slice (some ⟨ab, ao, none⟩) c cc, .slice oa2 (96 - c) (oc - c)] 27); simpa [B8, List.map_take] using this, fun h => by cases h⟩
              · exact ⟨(hrow2.below (Below.refl _ _).drew (Nat.le_refl _)).alloc _, fun h => (hnn2 h).elim⟩) (by simp [flat]; omega)
          have hfl : (flat [⟨some ⟨ab, ao, none⟩, cc, zs.take c⟩, ⟨oa2, oc - c, (s.fallTo keep k c k at').drop c⟩]) = zs.take c ++ (s.fallTo keep k c k at').drop c := by simp [flat]
          have hfll : (zs.take c ++ (s.fallTo keep k c k at').drop c).length = 96 := by rw [List.length_append, List.length_take, List.length_drop]; omega
          rw [hfl, hfll] at FC
          obtain ⟨xs, hxs⟩ : ∃ xs, zs.take c ++ (s.fallTo keep k c k at').drop c = xs := ⟨_, rfl⟩
          rw [hxs] at FC hK1 hfll
          have HXL := hid hfll
          have HXB := hid (show IsBytes xs by
            rw [← hxs]
            exact IsBytes.append (fun n hn => tby n (List.mem_of_mem_take hn)) (fun n hn => oby n (List.mem_of_mem_drop hn)))
          clear hin hfl hfll hxs hrow2
          go_wp2_with fail
          refine CT.mono ?_
          rintro e w2 ⟨rfl, rfl⟩
          go_wp2_with fail
          -- REGION 7
          refine wp_region_held_drew (S := (fun w' => w'.cell? ⟨p.d, 0, none⟩ = some (.slice (some ⟨p.kb, 0, none⟩) s.n p.kc) ∧ w'.cell? ⟨l8, 0, none⟩ = some (.int .i64 (at' : Int)) ∧ w'.cell? ⟨l8, 1, none⟩ = some (.slice (some ⟨ab, ao, none⟩) 96 cc))) (by kernel_rfl) S0 (fun hHeld => ?_)
          refine wpAnyH_take (i := 0) (v := ?v0) (by simp only [List.getElem?_toArray, List.getElem?_cons_zero]; rfl) (by kernel_rfl) (by kernel_rfl) (by kernel_rfl) (by exact fun _ _ _ h => h) (Or.inl ⟨by rfl, ?h0⟩) (by assumption) ?r0
          case h0 => (intro w hSw; (try dsimp only at hSw); go_simp; try with_reducible rfl)
          try simp only [Act.put, List.setIfInBounds_toArray, List.set_cons_zero, List.set_cons_succ]
          refine wpAnyH_take (i := 1) (v := ?v1) (by simp only [List.getElem?_toArray, List.getElem?_cons_zero, List.getElem?_cons_succ]; rfl) (by kernel_rfl) (by kernel_rfl) (by kernel_rfl) (by exact fun _ _ _ h => h) (Or.inl ⟨by rfl, ?h1⟩) (by assumption) ?r1
          case h1 => (intro w hSw; (try dsimp only at hSw); go_simp; try with_reducible rfl)
          try simp only [Act.put, List.setIfInBounds_toArray, List.set_cons_zero, List.set_cons_succ]
          refine wpAnyH_take (i := 2) (v := ?v2) (by simp only [List.getElem?_toArray, List.getElem?_cons_zero, List.getElem?_cons_succ]; rfl) (by kernel_rfl) (by kernel_rfl) (by kernel_rfl) (by exact fun _ _ _ h => h) (Or.inl ⟨by rfl, ?h2⟩) (by assumption) ?r2
          case h2 => (intro w hSw; (try dsimp only at hSw); go_simp; try with_reducible rfl)
          try simp only [Act.put, List.setIfInBounds_toArray, List.set_cons_zero, List.set_cons_succ]
          refine wpAnyH_take (i := 3) (v := ?v3) (by simp only [List.getElem?_toArray, List.getElem?_cons_zero, List.getElem?_cons_succ]; rfl) (by kernel_rfl) (by kernel_rfl) (by kernel_rfl) (by exact fun _ _ _ h => h) (Or.inl ⟨by rfl, ?h3⟩) (by assumption) ?r3
          case h3 => (intro w hSw; (try dsimp only at hSw); go_simp; try with_reducible rfl)
          try simp only [Act.put, List.setIfInBounds_toArray, List.set_cons_zero, List.set_cons_succ]
          refine wpAnyH_take (i := 4) (v := ?v4) (by simp only [List.getElem?_toArray, List.getElem?_cons_zero, List.getElem?_cons_succ]; rfl) (by kernel_rfl) (by kernel_rfl) (by kernel_rfl) (by exact fun _ _ _ h => h) (Or.inl ⟨by rfl, ?h4⟩) (by assumption) ?r4
          case h4 => (intro w hSw; (try dsimp only at hSw); go_simp; try with_reducible rfl)
          try simp only [Act.put, List.setIfInBounds_toArray, List.set_cons_zero, List.set_cons_succ]
          refine wpAnyH_take (i := 5) (v := ?v5) (by simp only [List.getElem?_toArray, List.getElem?_cons_zero, List.getElem?_cons_succ]; rfl) (by kernel_rfl) (by kernel_rfl) (by kernel_rfl) (by exact fun _ _ _ h => h) (Or.inl ⟨by rfl, ?h5⟩) (by assumption) ?r5
          case h5 => (intro w hSw; (try dsimp only at hSw); go_simp; try with_reducible rfl)
          try simp only [Act.put, List.setIfInBounds_toArray, List.set_cons_zero, List.set_cons_succ]
          refine wpAnyH_take (i := 6) (v := ?v6) (by simp only [List.getElem?_toArray, List.getElem?_cons_zero, List.getElem?_cons_succ]; rfl) (by kernel_rfl) (by kernel_rfl) (by kernel_rfl) (by exact fun _ _ _ h => h) (Or.inl ⟨by rfl, ?h6⟩) (by assumption) ?r6
          case h6 => (intro w hSw; (try dsimp only at hSw); go_simp; try with_reducible rfl)
          try simp only [Act.put, List.setIfInBounds_toArray, List.set_cons_zero, List.set_cons_succ]
          refine wpAnyH_take (i := 7) (v := ?v7) (by simp only [List.getElem?_toArray, List.getElem?_cons_zero, List.getElem?_cons_succ]; rfl) (by kernel_rfl) (by kernel_rfl) (by kernel_rfl) (by exact fun _ _ _ h => h) (Or.inl ⟨by rfl, ?h7⟩) (by assumption) ?r7
          case h7 => (intro w hSw; (try dsimp only at hSw); go_simp; try with_reducible rfl)
          try simp only [Act.put, List.setIfInBounds_toArray, List.set_cons_zero, List.set_cons_succ]
          refine wpAnyH_take (i := 8) (v := ?v8) (by simp only [List.getElem?_toArray, List.getElem?_cons_zero, List.getElem?_cons_succ]; rfl) (by kernel_rfl) (by kernel_rfl) (by kernel_rfl) (by exact fun _ _ _ h => h) (Or.inl ⟨by rfl, ?h8⟩) (by assumption) ?r8
          case h8 => (intro w hSw; (try dsimp only at hSw); go_simp; try with_reducible rfl)
          try simp only [Act.put, List.setIfInBounds_toArray, List.set_cons_zero, List.set_cons_succ]
          refine wpAnyH_take (i := 9) (v := ?v9) (by simp only [List.getElem?_toArray, List.getElem?_cons_zero, List.getElem?_cons_succ]; rfl) (by kernel_rfl) (by kernel_rfl) (by kernel_rfl) (by exact fun _ _ _ h => h) (Or.inl ⟨by rfl, ?h9⟩) (by assumption) ?r9
          case h9 => (intro w hSw; (try dsimp only at hSw); go_simp; try with_reducible rfl)
          try simp only [Act.put, List.setIfInBounds_toArray, List.set_cons_zero, List.set_cons_succ]
          refine wpAnyH_take (i := 10) (v := ?v10) (by simp only [List.getElem?_toArray, List.getElem?_cons_zero, List.getElem?_cons_succ]; rfl) (by kernel_rfl) (by kernel_rfl) (by kernel_rfl) (by exact fun _ _ _ h => h) (Or.inl ⟨by rfl, ?h10⟩) (by assumption) ?r10
          case h10 => (intro w hSw; (try dsimp only at hSw); go_simp; try with_reducible rfl)
          try simp only [Act.put, List.setIfInBounds_toArray, List.set_cons_zero, List.set_cons_succ]
          refine wpAnyH_take (i := 11) (v := ?v11) (by simp only [List.getElem?_toArray, List.getElem?_cons_zero, List.getElem?_cons_succ]; rfl) (by kernel_rfl) (by kernel_rfl) (by kernel_rfl) (by exact fun _ _ _ h => h) (Or.inl ⟨by rfl, ?h11⟩) (by assumption) ?r11
          case h11 => (intro w hSw; (try dsimp only at hSw); go_simp; try with_reducible rfl)
          try simp only [Act.put, List.setIfInBounds_toArray, List.set_cons_zero, List.set_cons_succ]
          refine wpAnyH_take (i := 12) (v := ?v12) (by simp only [List.getElem?_toArray, List.getElem?_cons_zero, List.getElem?_cons_succ]; rfl) (by kernel_rfl) (by kernel_rfl) (by kernel_rfl) (by exact fun _ _ _ h => h) (Or.inl ⟨by rfl, ?h12⟩) (by assumption) ?r12
          case h12 => (intro w hSw; (try dsimp only at hSw); go_simp; try with_reducible rfl)
          try simp only [Act.put, List.setIfInBounds_toArray, List.set_cons_zero, List.set_cons_succ]
          refine wpAnyH_take (i := 13) (v := ?v13) (by simp only [List.getElem?_toArray, List.getElem?_cons_zero, List.getElem?_cons_succ]; rfl) (by kernel_rfl) (by kernel_rfl) (by kernel_rfl) (by exact fun _ _ _ h => h) (Or.inl ⟨by rfl, ?h13⟩) (by assumption) ?r13
          case h13 => (intro w hSw; (try dsimp only at hSw); go_simp; try with_reducible rfl)
          try simp only [Act.put, List.setIfInBounds_toArray, List.set_cons_zero, List.set_cons_succ]
          refine wpAnyH_take (i := 14) (v := ?v14) (by simp only [List.getElem?_toArray, List.getElem?_cons_zero, List.getElem?_cons_succ]; rfl) (by kernel_rfl) (by kernel_rfl) (by kernel_rfl) (by exact fun _ _ _ h => h) (Or.inl ⟨by rfl, ?h14⟩) (by assumption) ?r14
          case h14 => (intro w hSw; (try dsimp only at hSw); go_simp; try with_reducible rfl)
          try simp only [Act.put, List.setIfInBounds_toArray, List.set_cons_zero, List.set_cons_succ]
          refine wpAnyH_take (i := 15) (v := ?v15) (by simp only [List.getElem?_toArray, List.getElem?_cons_zero, List.getElem?_cons_succ]; rfl) (by kernel_rfl) (by kernel_rfl) (by kernel_rfl) (by exact fun _ _ _ h => h) (Or.inl ⟨by rfl, ?h15⟩) (by assumption) ?r15
          case h15 => (intro w hSw; (try dsimp only at hSw); go_simp; try with_reducible rfl)
          try simp only [Act.put, List.setIfInBounds_toArray, List.set_cons_zero, List.set_cons_succ]
          refine wpAnyH_take (i := 16) (v := ?v16) (by simp only [List.getElem?_toArray, List.getElem?_cons_zero, List.getElem?_cons_succ]; rfl) (by kernel_rfl) (by kernel_rfl) (by kernel_rfl) (by exact fun _ _ _ h => h) (Or.inl ⟨by rfl, ?h16⟩) (by assumption) ?r16
          case h16 => (intro w hSw; (try dsimp only at hSw); go_simp; try with_reducible rfl)
          try simp only [Act.put, List.setIfInBounds_toArray, List.set_cons_zero, List.set_cons_succ]
          refine wpAnyH_take (i := 18) (v := ?v18) (by simp only [List.getElem?_toArray, List.getElem?_cons_zero, List.getElem?_cons_succ]; rfl) (by kernel_rfl) (by kernel_rfl) (by kernel_rfl) (by exact fun _ _ _ h => h) (Or.inl ⟨by rfl, ?h18⟩) (by assumption) ?r18
          case h18 => (intro w hSw; (try dsimp only at hSw); go_simp; try with_reducible rfl)
          try simp only [Act.put, List.setIfInBounds_toArray, List.set_cons_zero, List.set_cons_succ]
          refine wpAnyH_ready (rs := [17]) (by kernel_rfl) (by simp) ?_
          refine AllReadyH.cons (by simp only [List.getElem?_toArray, List.getElem?_cons_zero, List.getElem?_cons_succ]; rfl) (fun K hK => ?_) AllReadyH.nil
          go_simp
          refine hK.out _ _ S0 (fun hHeld1 => ?_)
          clear hK
          try simp only [Act.put, List.setIfInBounds_toArray, List.set_cons_zero, List.set_cons_succ]
          refine wpAnyH_take (i := 19) (v := ?v19) (by simp only [List.getElem?_toArray, List.getElem?_cons_zero, List.getElem?_cons_succ]; rfl) (by kernel_rfl) (by kernel_rfl) (by kernel_rfl) (by exact fun _ _ _ h => h) (Or.inl ⟨by rfl, ?h19⟩) (by assumption) ?r19
          case h19 => (intro w hSw; (try dsimp only at hSw); go_simp; try with_reducible rfl)
          try simp only [Act.put, List.setIfInBounds_toArray, List.set_cons_zero, List.set_cons_succ]
          refine wpAnyH_ready (rs := [20]) (by kernel_rfl) (by simp) ?_
          refine AllReadyH.cons (by simp only [List.getElem?_toArray, List.getElem?_cons_zero, List.getElem?_cons_succ]; rfl) (fun K hK => ?_) AllReadyH.nil
          go_simp
          refine hK.out _ _ (S5 _) (fun hHeld2 => ?_)
          clear hK
          try simp only [Act.put, List.setIfInBounds_toArray, List.set_cons_zero, List.set_cons_succ]
          refine wpAnyH_ready (rs := [21]) (by kernel_rfl) (by simp) ?_
          refine AllReadyH.cons (by simp only [List.getElem?_toArray, List.getElem?_cons_zero, List.getElem?_cons_succ]; rfl) (fun K hK => ?_) AllReadyH.nil
          go_simp
          go_at_call 66; refine FC.mono ?_; rintro e w8 ⟨v, rfl, ho, B8'⟩; obtain ⟨vg, vc, rfl, hvc⟩ := owns_some ho (by decide); obtain ⟨q1, q2, q3, q4, q5⟩ := S6 w8 B8'
          refine hK.out _ _ ⟨q1, q2, q3⟩ (fun hHeld3 => ?_)
          clear hK
          try simp only [Act.put, List.setIfInBounds_toArray, List.set_cons_zero, List.set_cons_succ]
          refine wpAnyH_ready (rs := [22]) (by kernel_rfl) (by simp) ?_
          refine AllReadyH.cons (by simp only [List.getElem?_toArray, List.getElem?_cons_zero, List.getElem?_cons_succ]; rfl) (fun K hK => ?_) AllReadyH.nil
          go_simp
          refine hK.out _ _ ⟨q1, q2, q3⟩ (fun hHeld4 => ?_)
          clear hK
          try simp only [Act.put, List.setIfInBounds_toArray, List.set_cons_zero, List.set_cons_succ]
          refine wpAnyH_ready (rs := [23]) (by kernel_rfl) (by simp) ?_
          refine AllReadyH.cons (by simp only [List.getElem?_toArray, List.getElem?_cons_zero, List.getElem?_cons_succ]; rfl) (fun K hK => ?_) AllReadyH.nil
          go_simp
          refine hK.out _ _ ⟨S9 _ _ _ q1 hk1, S9 _ _ _ q2 hk2, S9 _ _ _ q3 hk2⟩ (fun hHeld5 => ?_)
          clear hK
          try simp only [Act.put, List.setIfInBounds_toArray, List.set_cons_zero, List.set_cons_succ]
          refine wpAnyH_done (by kernel_rfl) ?_ _
          -- END 7
          go_wp2_with fail
          go_roundw
          case measure => simp [intOf]; omega
          case rel =>
            have BB : Below W1.drew.heap.size W1.drew w8 := ((Below.refl _ W1.drew).alloc (Nat.le_refl _) _).trans (B8'.mono (by simp))
            have T8 : Trk w8 M (.slice (some ⟨vg, 0, none⟩) 96 vc) xs := by
              obtain ⟨a1, c1, ee, -, hc1, -, hrw, -, -⟩ := row_of_owns ho
              cases ee
              exact ⟨⟨vg, 0, none⟩, vc, rfl, hrw, HXL.out, fun hm => by have h1 := hm.elim (P1d.out.ml vg) (P1d.out.xl vg); have h2 := (ho.lt vg rfl).1; simp at h1 h2; omega, HXB.out, hc1⟩
            refine ⟨k + 1, by go_num, by omega, hid ?_, (X1.drew.trans (Ext.of_below BB M) (fun _ _ h => h)).trans (Ext.set.mono (fun q _ hq => by subst hq; exact H0.out.kept.may)) (fun _ _ h => h)⟩
            rw [hK1.out]
            exact (P1d.out.below BB).setKept T8
        · have hK1 := hid (show s.fallTo keep torn c (k + 1) = s.fallTo keep torn c k by rw [HST.out]; unfold fallOne; rw [if_neg hin, if_neg hkt])
          have n1 : ((k : Int) == torn) = false := by simp; omega
          clear hin
          go_wp2_with fail
          refine CT.mono ?_
          rintro e w2 ⟨rfl, rfl⟩
          go_wp2_with fail
          go_roundw
          case measure => simp [intOf]; omega
          case rel => exact ⟨k + 1, by go_num, by omega, hid (by rw [hK1.out]; exact P1.out), X1⟩
    · obtain rfl : L = k := by omega
      have P := HP.out
      have d0 := P.cells.1
      simp only at d0
      have CL := clone2_any P.kept P.n0 P.n1
      simp only at CL
      have HPP := hid P
      clear P
      go_wp2_with fail
      refine CL.mono ?_
      rintro e w2 ⟨g, c', rfl, hg, K2, B2⟩
      have hs2 := B2.size
      have hdr := lt_of_blk HPP.out.obj
      have ho2 := (B2.block p.d hdr).trans HPP.out.obj
      have hdw : p.d < w2.heap.size := by omega
      have d1 := blk_cell (o := 1) ho2 rfl
      have d2 := blk_cell (o := 2) ho2 rfl
      have d3 := blk_cell (o := 3) ho2 rfl
      have d4 := blk_cell (o := 4) ho2 rfl
      have fr := fun o => blk_free (o := o) ho2
      have HO := hid ho2
      have HK2 := hid K2
      clear ho2
      go_wp2_with fail
      try simp only [Exit.inBlock, Exit.then]
      obtain ⟨F1, F2⟩ := HPP.out.fell hg HK2.out B2
      refine bodyPost_end (results_none rfl _ _ _) rfl ⟨rfl, (M.add g).add w2.heap.size, ⟨⟨p.d, p.kb, p.kc, g, c', .slice none 0 0, .pointer none, w2.heap.size, p.tb⟩, rfl, ?_⟩, ?_⟩
      · rw [HFD2.out, HL.out]
        exact F1
      · exact (show Step M w M wr from ⟨X, fun _ h => .inl h, rfl⟩).trans F2

end Go.Proofs.YtleoelhhndeheaaGreat
