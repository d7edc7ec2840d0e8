/- package drum: New -/
import Derived.Test.YtleoelhhndeheaaGreatDrum5
open Go Go.RowKit
namespace Go.Proofs.YtleoelhhndeheaaGreat

def DS.new (n : Nat) : DS := ⟨n, fun _ => zeros96, fun _ => zeros96, [], none, false, 0⟩

/-- tracks that were just made -/
def Fresh (w : World) (B : Nat) (hs : List Value) : Prop := ∀ (i : Nat) (v : Value), hs[i]? = some v → ∃ g : Nat, v = Value.slice (some ⟨g, 0, none⟩) 96 96 ∧ w.heap[g]? = some (.cells (B8 zeros96).toArray 5 (0, 0)) ∧ B ≤ g

theorem row_blk {w : World} {g : Nat} {vs : List Value} {t : TypeId} (h : w.heap[g]? = some (.cells vs.toArray t (0, 0))) : Row w (some ⟨g, 0, none⟩) vs :=
  ⟨fun _ => rfl, fun i v hv => by
    show w.cell? ⟨g, 0 + i, none⟩ = some v
    rw [Nat.zero_add]
    exact blk_cell h (by simpa using hv)⟩
theorem zeros96_bytes : IsBytes zeros96 := fun n hn => by
  have := (List.mem_replicate.1 hn).2
  omega
theorem Fresh.push {w w' : World} {B : Nat} {hs : List Value} (h : Fresh w B hs) {F : Nat → Prop} (k : Ext F w w') (hF : ∀ g, B ≤ g → w.heap[g]? = some (.cells (B8 zeros96).toArray 5 (0, 0)) → ¬ F g) {g : Nat} (hg : w'.heap[g]? = some (.cells (B8 zeros96).toArray 5 (0, 0))) (hB : B ≤ g) : Fresh w' B (hs ++ [.slice (some ⟨g, 0, none⟩) 96 96]) := by
  intro i v hv
  by_cases hi : i < hs.length
  · rw [List.getElem?_append_left hi] at hv
    obtain ⟨g', e, h1, h2⟩ := h i v hv
    exact ⟨g', e, k.blk (hF g' h2 h1) h1, h2⟩
  · rw [List.getElem?_append_right (by omega)] at hv
    have h0 := (List.getElem?_eq_some_iff.1 hv).1
    simp at h0
    rw [show i - hs.length = 0 by omega] at hv
    cases hv
    exact ⟨g, rfl, hg, hB⟩

set_option maxRecDepth 100000 in
theorem new_any (n : Int) (w : World) :
    Calls Tryz.prog 36 #[.int .i64 n] w fun e w' => ((¬ (10 ≤ n ∧ n ≤ 4096) ∧ e = .returned (.tuple #[.pointer none, .int .i64 1])) ∨
      (10 ≤ n ∧ n ≤ 4096 ∧ ∃ d M, e = .returned (.tuple #[.pointer (some ⟨d, 0, none⟩), .int .i64 0]) ∧ DrumAt w' M d (DS.new n.toNat) ∧ (∀ q, M q → w.heap.size ≤ q))) ∧ Below w.heap.size w w' := by
  by_cases hn : 10 ≤ n ∧ n ≤ 4096
  · obtain ⟨N, rfl⟩ : ∃ N : Nat, n = N := ⟨n.toNat, by omega⟩
    have hN1 : 10 ≤ N := by omega
    have hN2 : N ≤ 4096 := by omega
    have x1 : ¬ ((N : Int) < 10) := by omega
    have x2 : ¬ ((4096 : Int) < (N : Int)) := by omega
    have m2 := fun W => mkU (n := 96) (by omega) W
    simp only [show ((96 : Nat) : Int) = 96 from rfl] at m2
    obtain ⟨i0, hi, hz0, hz1, hz2⟩ := info_parts iT
    clear hn
    obtain ⟨W, hW⟩ : ∃ W, ((w.alloc (.cells #[.int .u32 0] 107)).alloc (.cells #[.int .i64 0] 112)).alloc (.cells #[.slice none 0 0, .slice none 0 0, .slice none 0 0, .pointer none, .pointer (some ⟨w.heap.size, 0, none⟩), .pointer (some ⟨w.heap.size + 1, 0, none⟩)] 90) = W := ⟨_, rfl⟩
    have b0 : W.heap[w.heap.size]? = some (.cells #[.int .u32 0] 107 (0, 0)) := hW ▸ blk_old _ (blk_old _ (blk_new w _))
    have b1 : W.heap[w.heap.size + 1]? = some (.cells #[.int .i64 0] 112 (0, 0)) := hW ▸ blk_old _ (blk_at _ (by simp))
    have b2 : W.heap[w.heap.size + 1 + 1]? = some (.cells #[.slice none 0 0, .slice none 0 0, .slice none 0 0, .pointer none, .pointer (some ⟨w.heap.size, 0, none⟩), .pointer (some ⟨w.heap.size + 1, 0, none⟩)] 90 (0, 0)) := hW ▸ blk_at _ (by simp)
    have BW : Below w.heap.size w W := hW ▸ (((Below.refl _ w).alloc (Nat.le_refl _) _).alloc (by simp) _).alloc (by simp; omega) _
    go_enter Tryz.func36, Tryz.ntmps36
    go_wp2_with fail
    have hszW : W.heap.size = w.heap.size + 3 := by rw [← hW]; simp
    clear hW
    obtain ⟨fb, hfb⟩ : ∃ fb, w.heap.size = fb := ⟨_, rfl⟩
    rw [hfb] at b0 b1 b2 hszW ⊢
    obtain ⟨tb, htb⟩ : ∃ tb, fb + 1 = tb := ⟨_, rfl⟩
    rw [htb] at b1 b2 ⊢
    obtain ⟨d, hd⟩ : ∃ d, tb + 1 = d := ⟨_, rfl⟩
    rw [hd] at b2 ⊢
    have HSW := hid hszW
    have HFB := hid hfb
    have HTB := hid htb
    have HD := hid hd
    clear hszW hfb htb hd
    go_loopw [18] (fun v wr => ∃ (k : Nat) (oa : Option Addr) (oc : Nat) (hs : List Value), v = .int .i64 k ∧ k ≤ N ∧ wr.heap[d]? = some (.cells #[.slice oa k oc, .slice none 0 0, .slice none 0 0, .pointer none, .pointer (some ⟨fb, 0, none⟩), .pointer (some ⟨tb, 0, none⟩)] 90 (0, 0)) ∧
      wr.ownsRow W.heap.size 27 1 (.slice oa k oc) k hs ∧ Hid (Fresh wr W.heap.size hs) ∧ Ext (fun q => q = d ∨ W.heap.size ≤ q) W wr) (fun v _ => N - (intOf v).toNat)
    case atStart => exact ⟨0, none, 0, [], rfl, Nat.zero_le _, b2, World.ownsRow_nil _ _ _ _, hid (fun i v h => by simp at h), Ext.refl _ _⟩
    case round =>
      obtain ⟨k, oa, oc, hs, rfl, hk, OB, OW, HF, X⟩ := hrel
      have hdW : d < W.heap.size := lt_of_blk b2
      have hdw : d < wr.heap.size := lt_of_blk OB
      have hsz := X.size
      by_cases hkN : k < N
      · have c0 : wr.cell? ⟨d, 0, none⟩ = some (.slice oa k oc) := blk_cell OB rfl
        have f0 : wr.frozen? ⟨d, 0, none⟩ = false := blk_free OB
        have hne : (Value.slice oa k oc).ownBlock ≠ some d := fun e => by have := (OW.lt d e).1; omega
        have S5a : ∀ o o', ((wr.drew.alloc o).alloc o').cell? ⟨d, 0, none⟩ = some (.slice oa k oc) := fun o o' => cell_alloc o' (cell_alloc o (w := wr.drew) c0)
        have f5a : ∀ o o', ((wr.drew.alloc o).alloc o').frozen? ⟨d, 0, none⟩ = false := fun o o' => free_alloc o' (lt_of_cell (cell_alloc o (w := wr.drew) c0)) (free_alloc o (w := wr.drew) hdw f0)
        have hm1 : k + 1 ≤ maxLen := by simp only [maxLen]; omega
        have hm2 : (k + 1) * 24 ≤ 140737488355328 := by omega
        go_wp2_with fail
        go_region_law (refine step_append_lies _ (by rfl) _ _ _ (by rfl) W.heap.size 27 i0 (.slice none 0 0) 1 24 Tryz.underlying46 hi hz0 hz1 hz2 (by rfl) (by decide) (.slice oa k oc) k hs (by rfl) ((OW.drew.alloc _).alloc _) ⟨wr.heap.size + 1, 0, none⟩ 1 1 [.slice (some ⟨wr.heap.size, 0, none⟩) 96 96] (by rfl) (by rfl) (row_at (wr.drew.alloc (.cells (B8 (List.replicate 96 0)).toArray 5)) #[.slice (some ⟨wr.heap.size, 0, none⟩) 96 96] 27 (by simp)).news (fun u hu => by simp at hu; subst hu; rfl) (by decide) hm1 hm2 (by simp; omega) (wr.heap.size + 1 + 1) (by simp) ?_; intro gg cap w6 O6 G6 hat hlt; have S6 : w6.cell? ⟨d, 0, none⟩ = some (.slice oa k oc) := (G6.cell_far ⟨d, 0, none⟩ (lt_of_cell (S5a _ _)) (Ne.symm hne)).trans (S5a _ _); have f6 : w6.frozen? ⟨d, 0, none⟩ = false := (G6.frozen_far ⟨d, 0, none⟩ (lt_of_cell (S5a _ _)) (Ne.symm hne)).trans (f5a _ _))
        all_goals
          go_wp2_with fail
          go_roundw
          case measure => simp [intOf]; omega
          case rel =>
            have hx : Ext (fun q => q = d ∨ (Value.slice oa k oc).ownBlock = some q) wr (w6.setCell ⟨d, 0, none⟩ (.slice (some ⟨gg, 0, none⟩) (k + 1) cap)) :=
              ((((Ext.refl (fun q => q = d ∨ (Value.slice oa k oc).ownBlock = some q) wr).drew.alloc _).alloc _).trans (Ext.of_grown G6) (fun _ _ h => .inr h)).trans Ext.set (fun _ _ h => .inl h)
            have hd6 : w6.heap[d]? = _ := (G6.block d (by simp; omega) (Ne.symm hne)).trans (blk_old _ (blk_old _ (w := wr.drew) OB))
            have hg6 : w6.heap[wr.heap.size]? = some (.cells (B8 zeros96).toArray 5 (0, 0)) :=
              (G6.block wr.heap.size (by simp; omega) (fun e => by have := (OW.lt _ e.symm).2; omega)).trans (blk_old _ (blk_new wr.drew _))
            have hg7 : (w6.setCell ⟨d, 0, none⟩ (.slice (some ⟨gg, 0, none⟩) (k + 1) cap)).heap[wr.heap.size]? = some (.cells (B8 zeros96).toArray 5 (0, 0)) := Ext.set.blk (show ¬ (wr.heap.size = d) by omega) hg6
            refine ⟨k + 1, some ⟨gg, 0, none⟩, cap, hs ++ [.slice (some ⟨wr.heap.size, 0, none⟩) 96 96], by go_num, by omega, blk_setCell hd6 _, ?_, hid (HF.out.push hx (fun g hg hb hf => ?_) hg7 (by omega)), X.trans hx (fun q _ hq => hq.imp id (fun h => (OW.lt q h).1))⟩
            · exact Ext.set.owns2 (fun q hq e => by
                have hq : some gg = some q := hq
                cases hq
                have := (O6.lt gg rfl).1
                have e : gg = d := e
                omega) O6
            · rcases hf with hf | hf
              · omega
              · exact owns_ne OW hb (by decide) hf
      · obtain rfl : N = k := by omega
        obtain ⟨kb, kc, e1, -⟩ := owns_some OW (by omega)
        obtain ⟨rfl, rfl⟩ : oa = some ⟨kb, 0, none⟩ ∧ oc = kc := by cases e1; exact ⟨rfl, rfl⟩
        have c0 : wr.cell? ⟨d, 0, none⟩ = some (.slice (some ⟨kb, 0, none⟩) N oc) := blk_cell OB rfl
        have hlenhs : hs.length = N := by have := OW.1; omega
        have bf : wr.heap[fb]? = _ := X.blk (fun h => by have := HTB.out; have := HD.out; have := lt_of_blk b0; omega) b0
        have bt : wr.heap[tb]? = _ := X.blk (fun h => by have := HD.out; have := lt_of_blk b1; omega) b1
        obtain ⟨ck, hkb⟩ := owns_blk OW
        have HT0 : HT wr (⟨fun q => q = d ∨ q = fb ∨ q = tb ∨ q = kb, fun _ => False⟩) kb oc N (fun _ => zeros96) := by
          refine ⟨.inr (.inr (.inr rfl)), hs, owns_mono OW (Nat.zero_le _), fun i hi => ?_⟩
          have hv : hs[i]? = some hs[i] := List.getElem?_eq_getElem (by omega)
          obtain ⟨g, e, h1, h2⟩ := HF.out i _ hv
          refine ⟨_, hv, ⟨g, 0, none⟩, 96, e, row_blk h1, zeros96_len, fun h => ?_, zeros96_bytes, Nat.le_refl _⟩
          rcases h with (h | h | h | h) | h
          · exact blk_ne h1 OB (by decide) h
          · exact blk_ne h1 bf (by decide) h
          · exact blk_ne h1 bt (by decide) h
          · exact blk_ne h1 hkb (by decide) h
          · exact h.elim
        have HT1 := hid HT0
        have CL := clone2_any HT0 (by omega) (by omega)
        have hkbw := lt_of_blk hkb
        clear HT0 e1
        go_wp2_with fail
        refine CL.mono ?_
        rintro e w8 ⟨g, c', rfl, hg, K2, B8'⟩
        have ho8 := (B8'.block d hdw).trans OB
        have c1 : w8.cell? ⟨d, 1, none⟩ = some (.slice none 0 0) := blk_cell ho8 rfl
        have fr := blk_free (o := 1) ho8
        have HO := hid ho8
        clear ho8
        go_wp2_with fail
        go_ret2
        have hs8 := B8'.size
        have hgw := K2.lt
        have ba := BW.size
        have ml : ∀ q, ((q = d ∨ q = fb ∨ q = tb ∨ q = kb) ∨ q = g) → w.heap.size ≤ q ∧ q < w8.heap.size := by
          have h1 := HTB.out
          have h2 := HD.out
          have h3 := HFB.out
          have h4 := (OW.lt kb rfl).1
          intro q hq
          omega
        have Q8 : DrumQ w8 (Dom.add ⟨fun q => q = d ∨ q = fb ∨ q = tb ∨ q = kb, fun _ => False⟩ g) ⟨d, kb, oc, g, c', .slice none 0 0, .pointer none, fb, tb⟩ (DS.new N) :=
          ⟨.inl (.inr (.inl rfl)), .inl (.inr (.inr (.inl rfl))), (HT1.out.to (M' := Dom.add ⟨fun q => q = d ∨ q = fb ∨ q = tb ∨ q = kb, fun _ => False⟩ g) (fun q hq => hq.imp id (fun h => by omega)) (.inl (.inr (.inr (.inr rfl))))).ext (Ext.of_below B8' (fun _ => False)) (fun _ h => h.elim) id,
            K2, fun e => by have e : kb = g := e; omega, UpAt.nil _ _ _, rfl, (B8'.block fb (lt_of_blk bf)).trans bf, (B8'.block tb (lt_of_blk bt)).trans bt, Int.le_refl _, by show (0 : Int) ≤ _; omega, by show 0 < N; omega, by show N ≤ _; omega, Nat.zero_le _⟩
        have X9 : Ext (· = d) w8 (w8.setCell ⟨d, 1, none⟩ (.slice (some ⟨g, 0, none⟩) N c')) := Ext.set
        have B9 : Below w.heap.size w (w8.setCell ⟨d, 1, none⟩ (.slice (some ⟨g, 0, none⟩) N c')) :=
          Below.ext (Below.ext BW ((X.trans (Ext.of_below B8' _) (fun _ _ h => h))) (fun q hq => by have h1 := HTB.out; have h2 := HD.out; have h3 := HFB.out; omega) ba) X9 (fun q hq => by have h1 := HTB.out; have h2 := HD.out; have h3 := HFB.out; omega) (by omega)
        refine ⟨.inr ⟨by omega, by omega, d, _, rfl, ⟨_, rfl, DrumQ.p (Q8.ext HO.out (.inl (.inl rfl)) X9) (.inl (.inl rfl)) (fun q hq => by have := (ml q hq).2; have := X9.size; omega) (fun q hq => hq.elim) (blk_setCell HO.out _)⟩, fun q hq => (ml q hq).1⟩, B9⟩
  · by_cases h : n < 10
    · go_enter Tryz.func36, Tryz.ntmps36
      go_wp2_with fail
      go_ret2
      first | exact ⟨.inl ⟨hn, rfl⟩, Below.refl _ _⟩ | exact ⟨.inl rfl, Below.refl _ _⟩ | exact ⟨rfl, Below.refl _ _⟩
    · have h2 : 4096 < n := by omega
      go_enter Tryz.func36, Tryz.ntmps36
      go_wp2_with fail
      go_ret2
      first | exact ⟨.inl ⟨by omega, rfl⟩, Below.refl _ _⟩ | exact ⟨.inl rfl, Below.refl _ _⟩ | exact ⟨rfl, Below.refl _ _⟩

end Go.Proofs.YtleoelhhndeheaaGreat
