/- scc.Back: does each node come back? -/
import Derived.Test.YtkflhmpecfckfaaParts
open Go Go.RowKit
namespace Go.Proofs.Ytkflhmpecfckfaa
open Tj

theorem tab_I8 (n : Nat) (p : Nat → Nat) : tab n p = I8 ((List.range n).map fun v => (p v : Int)) := by simp [tab, I8]
theorem tab_row {w : World} {b n : Nat} {p : Nat → Nat} {t : TypeId} {fr : Nat × Nat} (h : w.heap[b]? = some (.cells (tab n p).toArray t fr)) : Row w (some ⟨b, 0, none⟩) (I8 ((List.range n).map fun v => (p v : Int))) := by
  refine ⟨fun _ => rfl, fun i v hv => ?_⟩
  show w.cell? ⟨b, 0 + i, none⟩ = some v
  rw [Nat.zero_add]
  refine blk_cell h ?_
  rw [tab_I8]
  simpa using hv

/-- out behind j followers of node k -/
structure Outs (n : Nat) (E : Nat → List Nat) (p : Nat → Nat) (o : Nat → Bool) (k : Nat) (l : List Nat) : Prop where
  old : ∀ i, i < k → (o i = true ↔ ∃ t ∈ E i, p t = p i)
  now : o k = true ↔ ∃ t ∈ l, p t = p k
  new : ∀ i, k < i → o i = false
theorem Outs.start (n : Nat) (E : Nat → List Nat) (p : Nat → Nat) : Outs n E p (fun _ => false) 0 [] := ⟨fun i h => by omega, by simp, fun _ _ => rfl⟩
theorem Outs.next {n : Nat} {E : Nat → List Nat} {p : Nat → Nat} {o : Nat → Bool} {k : Nat} (h : Outs n E p o k (E k)) : Outs n E p o (k + 1) [] := by
  refine ⟨fun i hi => ?_, ?_, fun i hi => h.new i (by omega)⟩
  · by_cases e : i = k
    · subst e; exact h.now
    · exact h.old i (by omega)
  · rw [h.new (k + 1) (by omega)]; simp
theorem Outs.hit {n : Nat} {E : Nat → List Nat} {p : Nat → Nat} {o : Nat → Bool} {k : Nat} {l : List Nat} (h : Outs n E p o k l) {t : Nat} (e : p t = p k) : Outs n E p (upd o k true) k (l ++ [t]) := by
  refine ⟨fun i hi => ?_, ?_, fun i hi => ?_⟩
  · rw [upd_ne _ _ (by omega)]; exact h.old i hi
  · rw [upd_same]; simp; exact .inr e
  · rw [upd_ne _ _ (by omega)]; exact h.new i hi
theorem Outs.miss {n : Nat} {E : Nat → List Nat} {p : Nat → Nat} {o : Nat → Bool} {k : Nat} {l : List Nat} (h : Outs n E p o k l) {t : Nat} (e : p t ≠ p k) : Outs n E p o k (l ++ [t]) := by
  refine ⟨h.old, ?_, h.new⟩
  rw [h.now]
  simp [e]
theorem take_succD {l : List Nat} {j : Nat} (h : j < l.length) : l.take (j + 1) = l.take j ++ [l[j]?.getD 0] := by
  rw [List.take_add_one, List.getElem?_eq_getElem h]; rfl

set_option maxRecDepth 100000 in
set_option maxHeartbeats 4000000 in
theorem back_any (ea : Option Addr) (n ec : Nat) (L : Nat → List Int) (w : World) (hR : EdgesAt w ea n L) (hn : n ≤ 1000000) :
    Calls Try.prog 7 #[.slice ea n ec] w fun e w' => ∃ (gb : Nat) (o : Nat → Bool), e = .returned (.slice (some ⟨gb, 0, none⟩) n n) ∧ w'.heap[gb]? = some (.cells (tabB n o).toArray 4 (0, 0)) ∧ (∀ i, i < n → (o i = true ↔ Lds (edgeE n L) i i)) ∧ w.heap.size ≤ gb ∧ Below w.heap.size w w' := by
  have m2 := fun W => mkB hn W
  go_enter Try.func7, Try.ntmps7
  go_wp2_with fail
  refine (parts_any ea n ec L w hR hn).mono ?_
  rintro e w1 ⟨gp, p, rfl, hp, IP, hgp, B1⟩
  have IP := hid IP
  have hgl := lt_of_blk hp
  go_wp2_with fail
  obtain ⟨W, hW⟩ : ∃ W, w1.alloc (.cells (tabB n fun _ => false).toArray 4) = W := ⟨_, rfl⟩
  rw [hW]
  have hb0 : W.heap[w1.heap.size]? = some (.cells (tabB n fun _ => false).toArray 4 (0, 0)) := hW ▸ blk_new w1 _
  have hp0 : W.heap[gp]? = some (.cells (tab n p).toArray 3 (0, 0)) := hW ▸ blk_old _ hp
  have BW : Below w.heap.size w W := hW ▸ B1.alloc B1.size _
  obtain ⟨gb, hgb⟩ : ∃ gb, w1.heap.size = gb := ⟨_, rfl⟩
  rw [hgb] at hb0 ⊢
  have hne : gp ≠ gb := by omega
  have hgbw : w.heap.size ≤ gb := by have := B1.size; omega
  have hgbW : gb < W.heap.size := lt_of_blk hb0
  clear hW hgb m2 hgl hp
  go_loopw [15] (fun v wr => ∃ (k : Nat) (o : Nat → Bool), v = .int .i64 k ∧ k ≤ n ∧ wr.heap[gb]? = some (.cells (tabB n o).toArray 4 (0, 0)) ∧ Hid (Outs n (edgeE n L) p o k []) ∧ Ext (fun q => q = gb) W wr) (fun v _ => n - (intOf v).toNat)
  case atStart => exact ⟨0, _, rfl, Nat.zero_le _, hb0, hid (Outs.start _ _ _), Ext.refl _ _⟩
  case round =>
    obtain ⟨k, o, rfl, hk, hb, HO, X⟩ := hrel
    by_cases hin : k < n
    · have BWr : Below w.heap.size w wr := Below.ext BW X (fun i h => by omega) BW.size
      obtain ⟨ak, lk, ck, hck, hik, hlk⟩ := (hR.below BWr (Nat.le_refl _)).row k hin
      have FC := followers_any ea n ec k ak lk ck (L k) wr hin (hR.nn (by omega)) hck hik hlk
      clear hck hik
      go_wp2_with fail
      refine FC.mono ?_
      rintro e w2 ⟨a2, m2, c2, rfl, I2, D2, hof, B2⟩
      rw [edgeE_ints hin] at I2
      have hwr : gb < wr.heap.size := lt_of_blk hb
      have hb2 := (B2.block gb hwr).trans hb
      have hpr := X.blk (show ¬ gp = gb from hne) hp0
      have hp2 := (B2.block gp (lt_of_blk hpr)).trans hpr
      have hm2 : m2 = (edgeE n L k).length := by rw [← I2.len, List.length_map]
      have hE2 := edgeE_lt n L k
      have HN := hid (fun (h : Outs n (edgeE n L) p o k []) => h)
      have HO' := hid (HO.out)
      obtain ⟨EK, hEK⟩ : ∃ EK, edgeE n L k = EK := ⟨_, rfl⟩
      rw [hEK] at I2 hm2 hE2
      have HEK := hid hEK
      have HM := hid hm2
      have HE2 := hid hE2
      have hwr2 : wr.heap.size ≤ w2.heap.size := B2.size
      have hMb : m2 ≤ 1000000 := by
        have h1 : (edgeE n L k).length ≤ (L k).length := by unfold edgeE; rw [if_pos hin, List.length_map]; exact List.length_filter_le _ _
        obtain ⟨a', l', c', h2, h3, h4⟩ := hR.row k hin
        rw [hEK] at h1
        have := h3.len
        omega
      clear hEK hm2 hE2 FC hb hpr HN
      have hkI1 : (0 : Int) ≤ (k : Int) := by omega
      have hkI2 : (k : Int) < (n : Int) := by omega
      go_wp2_with fail
      go_loopw [22] (fun v wx => ∃ (j : Nat) (o' : Nat → Bool), v = .int .i64 j ∧ j ≤ m2 ∧ wx.heap[gb]? = some (.cells (tabB n o').toArray 4 (0, 0)) ∧ Hid (Outs n (edgeE n L) p o' k (EK.take j)) ∧ Ext (fun q => q = gb) w2 wx) (fun v _ => m2 - (intOf v).toNat)
      case atStart => exact ⟨0, o, rfl, Nat.zero_le _, hb2, hid (by simpa using HO.out), Ext.refl _ _⟩
      case round =>
        obtain ⟨W2, rfl⟩ : ∃ W, W = w2 := ⟨w2, rfl⟩
        obtain ⟨j, o', rfl, hj, hb3, HO3, X3⟩ := hrel
        by_cases hjn : j < m2
        · have hjE : j < EK.length := by rw [← HM.out]; exact hjn
          obtain ⟨ab, ao, rfl⟩ : ∃ ab ao, a2 = some ⟨ab, ao, none⟩ := ⟨_, _, I2.row.nn (by rw [I8_length, List.length_map]; omega)⟩
          have hxE : EK[j]?.getD 0 ∈ EK := by rw [List.getElem?_eq_getElem hjE]; exact List.getElem_mem _
          have hxn := HE2.out _ hxE
          have hab := (D2 (by simp)).1
          have hgba : ¬ sB (some ⟨ab, ao, none⟩) = gb := by omega
          have cx : wr.cell? ⟨ab, ao + j, none⟩ = some (.int .i64 ((EK[j]?.getD 0 : Nat) : Int)) := by
            refine (((I2.row.ext X3 (fun _ => hgba)).num (i := j) (by rw [List.length_map]; exact hjE))).trans ?_
            rw [List.getElem?_map, List.getElem?_eq_getElem hjE]
            rfl
          have hp3 := X3.blk (show ¬ gp = gb from hne) hp2
          have TK := take_succD hjE
          obtain ⟨x, hx⟩ : ∃ x, EK[j]?.getD 0 = x := ⟨_, rfl⟩
          rw [hx] at hxn cx TK
          have TK := hid TK
          clear hx hxE hjE hab hgba
          have hj1 : (0 : Int) ≤ (j : Int) := by omega
          have hj2 : (j : Int) < (m2 : Int) := by omega
          have hx1 : (0 : Int) ≤ (x : Int) := by omega
          have hx2 : (x : Int) < (n : Int) := by omega
          have pk := blk_cell hp3 (tab_get hin)
          have px := blk_cell hp3 (tab_get hxn)
          by_cases hpe : p x = p k
          · rw [hpe] at px
            have HPE := hid hpe
            clear hpe
            have S0 : wr.drew.cell? ⟨gp, x, none⟩ = some (.int .i64 (p k : Int)) ∧ wr.drew.cell? ⟨gp, k, none⟩ = some (.int .i64 (p k : Int)) := ⟨px, pk⟩
            have ob : wr.cell? ⟨gb, k, none⟩ = some (.bool (o' k)) := blk_cell hb3 (tabB_get hin)
            have of : wr.frozen? ⟨gb, k, none⟩ = false := blk_free hb3
            go_wp2_with fail
            go_region_held3 (fun w' => w'.cell? ⟨gp, x, none⟩ = some (.int .i64 (p k : Int)) ∧ w'.cell? ⟨gp, k, none⟩ = some (.int .i64 (p k : Int))) (first | exact S0 | assumption) (fail)
            go_wp2_with fail
            go_roundw
            case measure => simp [intOf]; omega
            case rel =>
              refine ⟨j + 1, upd o' k true, by go_num, by omega, ?_, hid ?_, ?_⟩
              · exact (blk_setCell hb3 _).trans (congrArg (fun c => some (Obj.cells c 4 (0, 0))) (tabB_set hin))
              · rw [TK.out]; exact HO3.out.hit HPE.out
              · first | exact (X3.setC rfl).drew | exact X3.drew.setC rfl
          · have hpn : ((p x : Int) == (p k : Int)) = false := by simp; omega
            have HPE := hid hpe
            clear hpe
            have S0 : wr.drew.cell? ⟨gp, x, none⟩ = some (.int .i64 (p x : Int)) ∧ wr.drew.cell? ⟨gp, k, none⟩ = some (.int .i64 (p k : Int)) := ⟨px, pk⟩
            go_wp2_with fail
            go_region_held3 (fun w' => w'.cell? ⟨gp, x, none⟩ = some (.int .i64 (p x : Int)) ∧ w'.cell? ⟨gp, k, none⟩ = some (.int .i64 (p k : Int))) (first | exact S0 | assumption) (fail)
            go_wp2_with fail
            go_roundw
            case measure => simp [intOf]; omega
            case rel =>
              refine ⟨j + 1, o', by go_num, by omega, hb3, hid ?_, X3.drew⟩
              rw [TK.out]; exact HO3.out.miss HPE.out
        · obtain rfl : j = m2 := by omega
          go_wp2_with fail
          go_roundw
          case measure => simp [intOf]; omega
          case rel =>
            refine ⟨k + 1, o', by go_num, by omega, hb3, hid ?_, ?_⟩
            · have := HO3.out
              rw [HM.out, List.take_length, ← HEK.out] at this
              exact this.next
            · exact (X.trans (Ext.of_below B2 (fun q => q = gb)) (fun _ _ h => h)).trans X3 (fun _ _ h => h)
    · obtain rfl : n = k := by omega
      go_wp2_with fail
      go_ret
      refine ⟨gb, o, rfl, hb, fun i hi => ?_, hgbw, Below.ext BW X (fun i h => by omega) BW.size⟩
      rw [HO.out.old i hi]
      exact back_iff (edgeE_lt n L) IP.out hi

end Go.Proofs.Ytkflhmpecfckfaa
