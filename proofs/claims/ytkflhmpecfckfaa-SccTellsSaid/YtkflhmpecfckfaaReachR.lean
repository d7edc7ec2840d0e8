/- lariatref13.Reach: the walk -/
import Derived.Test.YtkflhmpecfckfaaBackR
open Go Go.RowKit
namespace Go.Proofs.Ytkflhmpecfckfaa
open Tj

/-- f was met by an edge at least, td is to be looked at -/
structure Wq (n m : Nat) (E : Nat → List Nat) (f : Nat → Bool) (td : List Nat) : Prop where
  sound : ∀ v, f v = true → ∃ j, j < m ∧ Lds E j v
  inl : ∀ v ∈ td, v < n ∧ (f v = true ∨ v < m)
  done : ∀ v, (f v = true ∨ v < m) → v ∈ td ∨ ∀ t ∈ E v, f t = true
theorem Wq.start {n m : Nat} {E : Nat → List Nat} (hm : m ≤ n) : Wq n m E (fun _ => false) (List.range m) :=
  ⟨fun v h => (by cases h), fun v hv => ⟨by have := List.mem_range.1 hv; omega, .inr (List.mem_range.1 hv)⟩, fun v hv => (by
    rcases hv with h | h
    · cases h
    · exact .inl (List.mem_range.2 h))⟩
theorem Wq.fin {n m : Nat} {E : Nat → List Nat} {f : Nat → Bool} (h : Wq n m E f []) (v : Nat) : f v = true ↔ ∃ j, j < m ∧ Lds E j v := by
  refine ⟨h.sound v, ?_⟩
  rintro ⟨j, hj, b, hb, hr⟩
  have cl : ∀ x, (f x = true ∨ x < m) → ∀ t ∈ E x, f t = true := fun x hx => by
    rcases h.done x hx with h1 | h1
    · cases h1
    · exact h1
  exact Rch.closed (S := fun v => f v = true) (fun x hx t ht => cl x (.inl hx) t ht) (cl j (.inr hj) b hb) hr
/-- within a node's edges, those of d are gone -/
structure Wr (n m : Nat) (E : Nat → List Nat) (f : Nat → Bool) (td : List Nat) (k : Nat) (d : List Nat) : Prop where
  sound : ∀ v, f v = true → ∃ j, j < m ∧ Lds E j v
  inl : ∀ v ∈ td, v < n ∧ (f v = true ∨ v < m)
  done : ∀ v, (f v = true ∨ v < m) → v ∈ td ∨ v = k ∨ ∀ t ∈ E v, f t = true
  now : ∀ t ∈ d, f t = true
  me : f k = true ∨ k < m
theorem Wq.pop {n m k : Nat} {E : Nat → List Nat} {f : Nat → Bool} {td : List Nat} (h : Wq n m E f (td ++ [k])) : Wr n m E f td k [] := by
  refine ⟨h.sound, fun v hv => h.inl v (List.mem_append_left _ hv), fun v hv => ?_, by simp, (h.inl k (by simp)).2⟩
  rcases h.done v hv with h1 | h1
  · rcases List.mem_append.1 h1 with h2 | h2
    · exact .inl h2
    · exact .inr (.inl (List.mem_singleton.1 h2))
  · exact .inr (.inr h1)
theorem Wr.old {n m k t : Nat} {E : Nat → List Nat} {f : Nat → Bool} {td d : List Nat} (h : Wr n m E f td k d) (ht : f t = true) : Wr n m E f td k (d ++ [t]) :=
  ⟨h.sound, h.inl, h.done, fun u hu => by
    rcases List.mem_append.1 hu with h1 | h1
    · exact h.now u h1
    · rw [List.mem_singleton.1 h1]; exact ht, h.me⟩
theorem Wr.new {n m k t : Nat} {E : Nat → List Nat} {f : Nat → Bool} {td d : List Nat} (h : Wr n m E f td k d) (ht : t ∈ E k) (hn : t < n) : Wr n m E (upd f t true) (td ++ [t]) k (d ++ [t]) := by
  have hmono : ∀ {v}, (f v = true ∨ v < m) → (upd f t true v = true ∨ v < m) := fun h => h.imp upd_true id
  refine ⟨fun v hv => ?_, fun v hv => ?_, fun v hv => ?_, fun u hu => ?_, hmono h.me⟩
  · by_cases e : v = t
    · subst e
      rcases h.me with h1 | h1
      · obtain ⟨j, hj, b, hb, hr⟩ := h.sound k h1
        exact ⟨j, hj, b, hb, .step hr ht⟩
      · exact ⟨k, h1, v, ht, .refl _⟩
    · rw [upd_ne _ _ e] at hv; exact h.sound v hv
  · rcases List.mem_append.1 hv with hv | e
    · exact ⟨(h.inl v hv).1, hmono (h.inl v hv).2⟩
    · rw [List.mem_singleton.1 e]; exact ⟨hn, .inl (upd_same _ _ _)⟩
  · by_cases e : v = t
    · exact .inl (by simp [e])
    · have hv' : f v = true ∨ v < m := hv.imp (fun h1 => by rwa [upd_ne _ _ e] at h1) id
      rcases h.done v hv' with h1 | h1 | h1
      · exact .inl (List.mem_append_left _ h1)
      · exact .inr (.inl h1)
      · exact .inr (.inr fun u hu => upd_true (h1 u hu))
  · rcases List.mem_append.1 hu with h1 | h1
    · exact upd_true (h.now u h1)
    · rw [List.mem_singleton.1 h1]; exact upd_same _ _ _
theorem Wr.close {n m k : Nat} {E : Nat → List Nat} {f : Nat → Bool} {td : List Nat} (h : Wr n m E f td k (E k)) : Wq n m E f td :=
  ⟨h.sound, h.inl, fun v hv => by
    rcases h.done v hv with h1 | h1 | h1
    · exact .inl h1
    · subst h1; exact .inr h.now
    · exact .inr h1⟩

set_option maxRecDepth 100000 in
set_option maxHeartbeats 8000000 in
theorem reachR_any (ea : Option Addr) (n ec : Nat) (L : Nat → List Int) (fa : Option Addr) (m fc : Nat) (w : World) (hR : EdgesAt w ea n L) (hF : IntsAt w fa m fc ((List.range m).map Int.ofNat)) (hm : m ≤ n) (hL4 : ∀ v, v < n → (L v).length ≤ 4) (hn : n ≤ 30) :
    Calls Try.prog 20 #[.slice ea n ec, .slice fa m fc] w fun e w' => ∃ (gb : Nat) (f : Nat → Bool), e = .returned (.slice (some ⟨gb, 0, none⟩) n n) ∧ w'.heap[gb]? = some (.cells (tabB n f).toArray 4 (0, 0)) ∧ (∀ v, f v = true ↔ ∃ j, j < m ∧ Lds (edgeE n L) j v) ∧ w.heap.size ≤ gb ∧ Below w.heap.size w w' := by
  have m2 := fun W => mkB (n := n) (by omega) W
  obtain ⟨i0, hi, hz0, hz1, hz2⟩ := info_parts iI
  have HL4 := hid hL4
  have HROW : Hid (∀ i, i < n → ∃ ai li ci, (∀ wx, Below w.heap.size w wx → wx.cell? ⟨sB ea, sO ea + i, none⟩ = some (.slice ai li ci) ∧ IntsAt wx ai li ci (L i)) ∧ li = (L i).length) := hid (fun i hi => by
    obtain ⟨ai, li, ci, hc, hI, hl⟩ := hR.row i hi
    exact ⟨ai, li, ci, fun wx BX => ⟨Below.cellAt BX (lt_of_cell hc) hc, hI.below BX (Nat.le_refl _)⟩, hI.len.symm⟩)
  have hnn := hR.nn
  have HF := hid hF
  clear hL4 hR hF
  go_enter Try.func20, Try.ntmps20
  obtain ⟨W, hW⟩ : ∃ W, w.alloc (.cells (tabB n fun _ => false).toArray 4) = W := ⟨_, rfl⟩
  have hb0 : W.heap[w.heap.size]? = some (.cells (tabB n fun _ => false).toArray 4 (0, 0)) := hW ▸ blk_new w _
  have BW : Below w.heap.size w W := hW ▸ (Below.refl _ w).alloc (Nat.le_refl _) _
  have sW : W.heap.size = w.heap.size + 1 := by rw [← hW]; simp
  have OE : (W.alloc (.cells #[] 3)).ownsRow W.heap.size 3 1 (.slice (some ⟨W.heap.size, 0, none⟩) 0 0) 0 [] := World.ownsRow_lit W #[] 0 (Nat.le_refl _) (by simp [maxLen]) rfl
  rw [← hW] at OE
  have RF : Row (W.alloc (.cells #[] 3)) fa (I8 ((List.range m).map Int.ofNat)) := (HF.out.below (BW.alloc BW.size _) (Nat.le_refl _)).row
  have HRF := hid RF
  have HNF := hid (HF.out.nil)
  have h8 : (0 + m) * 8 ≤ 140737488355328 := by omega
  have hbs0 : W.heap.size ≤ (W.alloc (.cells #[] 3)).heap.size := by simp
  rw [hW] at OE
  have HW := hid hW
  have SW := hid sW
  clear RF hW sW
  have mk := m2 w
  rw [HW.out] at mk
  clear m2
  go_wp2_with (at_builtin; refine wpList_append_row rfl _ _ 29 rfl W.heap.size 3 i0 (.int .i64 0) Try.underlying29 hi hz0 hz1 (by omega) rfl (.slice (some ⟨W.heap.size, 0, none⟩) 0 0) 0 [] rfl OE fa m fc (I8 ((List.range m).map Int.ofNat)) rfl HRF.out (by simp [I8]) HNF.out (fun u hu => by simp [I8] at hu; obtain ⟨x, _, rfl⟩ := hu; rfl) ?c4 ?c5 ?_)
  case c4 => exact h8
  case c5 => exact hbs0
  intro tv0 w4 O4 B4 _
  have sW := SW.out
  obtain ⟨gb, hgb⟩ : ∃ gb, w.heap.size = gb := ⟨_, rfl⟩
  rw [hgb] at hb0 ⊢
  have hgbw : w.heap.size ≤ gb := by omega
  have hgbW : gb < W.heap.size := by omega
  have hb4 := hid ((B4.block gb hgbW).trans (blk_old (.cells #[] 3) hb0))
  have hs4 : W.heap.size ≤ w4.heap.size := by have := B4.size; simp at this; omega
  have BW4 : Below w.heap.size w w4 := (BW.alloc BW.size (.cells #[] 3)).trans (B4.mono (by omega))
  have O4 : w4.ownsRow W.heap.size 3 1 tv0 (List.range m).length (I8 ((List.range m).map Int.ofNat)) := by simpa [I8] using O4
  have O4 := hid O4
  obtain ⟨Bt, hBt⟩ : ∃ Bt, W.heap.size = Bt := ⟨_, rfl⟩
  rw [hBt] at O4 hgbW hs4
  have BW4 := hid BW4
  have hs4 := hid hs4
  clear hgb hb0 BW sW OE HRF HNF h8 hbs0 HW mk B4 hBt
  go_wp2_with fail
  go_loopg [6] (wkw n (fun _ => false) (List.range m)) (fun q tv' wx => ∃ (f : Nat → Bool) (td : List Nat) (tv : Value), tv = tv' ∧ Hid (wkw n f td = q) ∧ Hid (wkw n f td ≤ 3 * n) ∧ Hid (Wq n m (edgeE n L) f td) ∧ Hid (wx.heap[gb]? = some (.cells (tabB n f).toArray 4 (0, 0))) ∧ Hid (wx.ownsRow Bt 3 1 tv td.length (I8 (td.map Int.ofNat))) ∧ Below w.heap.size w wx ∧ Bt ≤ wx.heap.size)
  case atStart => exact ⟨_, _, _, rfl, hid rfl, hid (by unfold wkw; simp; omega), hid (Wq.start hm), hb4, O4, BW4.out, hs4.out⟩
  case round =>
    clear hb4 O4 BW4 hs4
    obtain ⟨f, td, tv, rfl, HQ, HQ2, HK, HB, OT, B9, hsz⟩ := hrel
    rcases List.eq_nil_or_concat td with rfl | ⟨td1, k, rfl⟩
    · obtain ⟨pa, pc, rfl⟩ := owns_slice OT.out
      simp only [List.length_nil]
      go_wp2_with fail
      go_ret
      exact ⟨gb, f, rfl, HB.out, HK.out.fin, hgbw, B9⟩
    · rw [List.concat_eq_append] at *
      obtain ⟨g, c, rfl, hgc⟩ := owns_some OT.out (by simp)
      have hlt : (td1 ++ [k]).length = td1.length + 1 := by simp
      have OT1 := OT.out
      rw [hlt] at OT1 hgc ⊢
      have ck := last_cell OT1
      have OT2 := hid (last_take OT1)
      have hkn := (HK.out.inl k (by simp)).1
      have KT := hid (HK.out.pop)
      have hqp : wkw n f td1 < gk := by rw [← HQ.out]; exact wkw_pop
      have hq3 : wkw n f td1 ≤ 3 * n := Nat.le_trans (Nat.le_of_lt wkw_pop) HQ2.out
      have hM61 : td1.length ≤ 90 := by have := wkw_len (n := n) (f := f) (td := td1); omega
      obtain ⟨M, hM⟩ : ∃ M, td1.length = M := ⟨_, rfl⟩
      rw [hM] at ck hgc hM61 OT2 ⊢
      have HMr := hid hM
      have hMa : (0 : Int) ≤ (M : Int) := by omega
      have hMb : (M : Int) < ((M + 1 : Nat) : Int) := by omega
      have hMc : (M : Int) < (M : Int) + 1 := by omega
      have hcmin : M ≤ c := by omega
      have k1 : (0 : Int) ≤ (k : Int) := by omega
      have k2 : (k : Int) < (n : Int) := by omega
      have k3 : ¬ ((k : Int) < 0) := by omega
      have k4 : ¬ ((n : Int) ≤ (k : Int)) := by omega
      obtain ⟨ar, lr, cr, hrow, hlen⟩ := HROW.out k hkn
      have HR := hid hrow
      have HIL := hid hlen.symm
      have hlr4 : lr ≤ 4 := by have := HL4.out k hkn; omega
      have hixo := idx_at1 (P := Try.prog) (T := 22) Try.underlying22 (show (Try.prog.info? 29).map (·.size) = some 1 by kernel_rfl) (cap := ec) (fun _ => hnn (by omega)) hkn
      have hixi := fun k (hk : k < lr) => idx_at1 (P := Try.prog) (T := 29) Try.underlying29 szI (cap := cr) (fun _ => (hrow w (Below.refl _ _)).2.row.nn (by simp; have := HIL.out; omega)) hk
      obtain ⟨m0, hm0⟩ : ∃ m0, wkw n f td1 = m0 := ⟨_, rfl⟩
      rw [hm0] at hqp hq3
      have HQP := hid hqp
      have HQ3 := hid hq3
      have HM0 := hid (Nat.le_of_eq hm0)
      have B9h := hid B9
      have hszh := hid hsz
      have OT3 : Hid (wr.ownsRow Bt 3 1 (.slice (some ⟨g, 0, none⟩) M c) td1.length (I8 (td1.map Int.ofNat))) := hid (by rw [HMr.out]; exact OT2.out)
      clear hrow hlen hlt OT1 OT2 OT hM hqp hq3 hm0 HK HQ HQ2 B9 hsz
      go_wp2_with fail
      go_loopw [6, 8] (fun tv' v wx => ∃ (q : Nat) (f2 : Nat → Bool) (td2 : List Nat) (tv : Value), tv = tv' ∧ v = .int .i64 q ∧ q ≤ lr ∧ Hid (wkw n f2 td2 ≤ m0) ∧ Hid (Wr n m (edgeE n L) f2 td2 k (nodesOf n ((L k).take q))) ∧ Hid (wx.heap[gb]? = some (.cells (tabB n f2).toArray 4 (0, 0))) ∧ Hid (wx.ownsRow Bt 3 1 tv td2.length (I8 (td2.map Int.ofNat))) ∧ Below w.heap.size w wx ∧ Bt ≤ wx.heap.size) (fun _ v _ => lr - (intOf v).toNat)
      case atStart => exact ⟨0, f, td1, _, rfl, rfl, Nat.zero_le _, HM0, hid (by simpa [nodesOf] using KT.out), HB, OT3, B9h.out, hszh.out⟩
      case round =>
        clear KT HB OT3 B9h hszh ck HM0
        obtain ⟨q, f2, td2, tv, rfl, rfl, hq, HW, HK3, HB, OT, B9', hszx⟩ := hrel
        have crow := (HR.out wr B9').1
        by_cases hql : q < lr
        · have hqL : q < (L k).length := by rw [HIL.out]; exact hql
          have hcz := (HR.out wr B9').2.row.num hqL
          have hixq := hixi q hql
          have TK := take_succ_get hqL
          have hmem : (L k)[q]?.getD 0 ∈ L k := by rw [List.getElem?_eq_getElem hqL]; exact List.getElem_mem _
          obtain ⟨z, hz⟩ : ∃ z, (L k)[q]?.getD 0 = z := ⟨_, rfl⟩
          rw [hz] at hcz TK hmem
          have TK := hid TK
          have HMEM := hid hmem
          have q1 : (0 : Int) ≤ (q : Int) := by omega
          clear hz hqL hmem
          by_cases hnode : 0 ≤ z ∧ z < (n : Int)
          · obtain ⟨u, rfl⟩ : ∃ u : Nat, z = (u : Int) := ⟨z.toNat, by omega⟩
            have hun : u < n := by omega
            have u1 : (0 : Int) ≤ (u : Int) := by omega
            have u2 : (u : Int) < (n : Int) := by omega
            have cb := blk_cell HB.out (tabB_get hun)
            have fb : wr.frozen? ⟨gb, u, none⟩ = false := blk_free HB.out
            clear hnode
            cases hfu : f2 u with
            | true =>
              rw [hfu] at cb
              have KH := hid (HK3.out.old hfu)
              clear hfu
              go_wp2_with fail
              go_roundw
              case measure => simp [intOf] <;> omega
              case rel => exact ⟨q + 1, f2, td2, _, rfl, by go_num, by omega, HW, hid (by rw [TK.out, nodesOf_yes hun]; exact KH.out), HB, OT, B9', hszx⟩
            | false =>
              rw [hfu] at cb
              have hku : u ∈ edgeE n L k := (mem_edgeE hkn).2 ⟨_, HMEM.out, by simp [nodeB]; omega, by simp⟩
              have KG := hid (HK3.out.new hku hun)
              have HW2 := hid (Nat.lt_of_lt_of_le (wkw_push (td := td2) hun hfu) HW.out)
              have hb7 := hid ((blk_setCell HB.out (.bool true) (o := u)).trans (congrArg (fun c => some (Obj.cells c 4 (0, 0))) (tabB_set (x := true) hun)))
              have B7 : Below w.heap.size w (wr.setCell ⟨gb, u, none⟩ (.bool true)) := Below.setCell B9' hgbw _
              have OT7 := ownsRow_setCell_below OT.out (show Addr.block ⟨gb, u, none⟩ < Bt from hgbW) (.bool true)
              have hlen2 : td2.length ≤ 90 := by
                have h1 := wkw_len (n := n) (f := f2) (td := td2)
                have h2 := HW.out
                have h3 := HQ3.out
                omega
              have HLTB := hid (fun q hq => (OT7.lt q hq).1)
              obtain ⟨M2, hM2⟩ : ∃ M, td2.length = M := ⟨_, rfl⟩
              rw [hM2] at OT7 hlen2
              have HM2 := hid hM2
              obtain ⟨KS, hKS⟩ : ∃ x, I8 (td2.map Int.ofNat) = x := ⟨_, rfl⟩
              rw [hKS] at OT7
              have HKS := hid hKS
              have h8 : (M2 + 1) * 8 ≤ 140737488355328 := by omega
              have hml : M2 + 1 ≤ maxLen := by simp only [maxLen]; omega
              have hbs : Bt ≤ ((wr.setCell ⟨gb, u, none⟩ (.bool true)).alloc (.cells #[.int .i64 (u : Int)] 3)).heap.size := by simp; omega
              have HB7 := hid B7
              clear hfu hM2 hKS HB OT HK3 B7 hku
              go_wp2_with (at_builtin; refine wpList_append_lies (P := Try.prog) (w := (wr.setCell ⟨gb, u, none⟩ (.bool true)).alloc (.cells #[.int .i64 (u : Int)] 3)) rfl _ _ 29 rfl Bt 3 i0 (.int .i64 0) 1 8 Try.underlying29 hi hz0 hz1 hz2 rfl (by decide) tv M2 KS rfl (OT7.alloc _) ⟨wr.heap.size, 0, none⟩ 1 1 [.int .i64 (u : Int)] rfl rfl (row_at (wr.setCell ⟨gb, u, none⟩ (.bool true)) #[.int .i64 (u : Int)] 3 (by simp)).news (fun x hx => by simp at hx; subst hx; rfl) (by decide) hml h8 hbs (wr.heap.size + 1) (by simp) ?_)
              intro g7 c7 w7 O7 G7 hat hlt7
              have HO7 := hid O7
              clear O7
              go_wp2_with fail
              go_roundw
              case measure => simp [intOf] <;> omega
              case rel =>
                have hM := HM2.out
                subst hM
                have O7 := HO7.out
                rw [← HKS.out] at O7
                have hs7 := G7.size
                simp at hs7
                refine ⟨q + 1, upd f2 u true, td2 ++ [u], _, rfl, by go_num, by omega, hid (Nat.le_of_lt HW2.out), hid (by rw [TK.out, nodesOf_yes hun]; exact KG.out), hid ((G7.block gb (by simp; omega) (fun e => by have := HLTB.out gb e.symm; omega)).trans (blk_old _ hb7.out)), hid ?_, (HB7.out.alloc HB7.out.size _).grown G7 (by have := HB7.out.size; simp at this ⊢; omega) (fun x hx => by have := HLTB.out x hx; omega), by omega⟩
                simpa [I8] using O7
          · have hnb : nodeB n z = false := by
              simp only [nodeB, Bool.and_eq_false_iff, decide_eq_false_iff_not]
              omega
            have HNN := hid hnb
            clear hnb
            by_cases hneg : z < 0
            · have hn0 : ¬ (0 ≤ z) := by omega
              clear hnode
              go_wp2_with fail
              go_roundw
              case measure => simp [intOf] <;> omega
              case rel => exact ⟨q + 1, f2, td2, _, rfl, by go_num, by omega, HW, hid (by rw [TK.out, nodesOf_no HNN.out]; exact HK3.out), HB, OT, B9', hszx⟩
            · have hn0 : 0 ≤ z := by omega
              have hn1 : ¬ (z < (n : Int)) := by omega
              clear hnode hneg
              go_wp2_with fail
              go_roundw
              case measure => simp [intOf] <;> omega
              case rel => exact ⟨q + 1, f2, td2, _, rfl, by go_num, by omega, HW, hid (by rw [TK.out, nodesOf_no HNN.out]; exact HK3.out), HB, OT, B9', hszx⟩
        · obtain rfl : lr = q := by omega
          have KN := HK3.out
          rw [← HIL.out, List.take_length, nodesOf_all hkn] at KN
          have KN := hid KN.close
          go_wp2_with fail
          go_roundg (wkw n f2 td2)
          case measure => have h1 := HW.out; have h2 := HQP.out; omega
          case rel => exact ⟨f2, td2, _, rfl, hid rfl, hid (Nat.le_trans HW.out HQ3.out), KN, HB, OT, B9', hszx⟩

end Go.Proofs.Ytkflhmpecfckfaa
