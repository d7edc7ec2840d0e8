import Derived.Test.YtddcggdbnhmoiaaGreatLawL2
import Derived.Test.YtddcggdbnhmoiaaGreatStr
/- the laws' known -/
open Go Go.RowKit
namespace Go.Proofs.YtddcggdbnhmoiaaGreat

theorem Sys.free {w : World} {M : Dom} {B : Nat → Prop} {d l mb : Nat} {s : DS} {L : LS} (h : Sys w M B d l mb s L) {q : Nat} (hq : w.heap.size ≤ q) : ¬ inD M q := by
  obtain ⟨p, -, D⟩ := h.drum
  rintro (h1 | h1)
  · have := D.ml q h1; omega
  · have := D.xl q h1; omega

/-- what was written since a world lies behind it -/
structure Since (w0 w : World) (M : Dom) (B : Nat → Prop) : Prop where
  below : Below w0.heap.size w0 w
  new : ∀ q, M.M q ∨ B q → w0.heap.size ≤ q
theorem Begun.since {w w' : World} {M : Dom} {B : Nat → Prop} {d l mb n : Nat} {lv : Int} {s : DS} {L : LS} (h : Begun w w' M B d l mb n lv s L) : Since w w' M B := ⟨h.below, h.new⟩
theorem Since.lstep {w0 w w' : World} {M M' : Dom} {B B' : Nat → Prop} (h : Since w0 w M B) (k : LStep M B w M' B' w') : Since w0 w' M' B' :=
  ⟨Below.ext h.below k.ext h.new h.below.size, fun q hq => hq.elim (fun h1 => (k.new q h1).elim (fun h2 => h.new q (.inl h2)) (fun h2 => Nat.le_trans h.below.size h2)) (fun h1 => (k.newB q h1).elim (fun h2 => h.new q (.inr h2)) (fun h2 => Nat.le_trans h.below.size h2))⟩
theorem Since.forget {w0 w : World} {M : Dom} {B : Nat → Prop} (h : Since w0 w M B) : Since w0 w M none' := ⟨h.below, fun q hq => hq.elim (fun h1 => h.new q (.inl h1)) (fun h1 => h1.elim)⟩
theorem Since.step {w0 w w' : World} {M M' : Dom} {B : Nat → Prop} (h : Since w0 w M B) (k : Step M w M' w') : Since w0 w' M' B := h.lstep (LStep.of_step k)
theorem Since.to {w0 w w' : World} {M : Dom} {B : Nat → Prop} (h : Since w0 w M B) (k : Below w.heap.size w w') : Since w0 w' M B := h.lstep (LStep.of_below k)

theorem mayE_one {k : Int} {z : List Int} {H : Nat} (hk : 0 ≤ k ∧ k < H) (hz : z.length = 96) : mayE [(k, z)] H = true := by
  unfold mayE mayFrom
  simp [hk, hz, mayFrom]
theorem over_one (k : Int) (z : List Int) (j : Nat) (y : List Int) : over [(k, z)] j y = if (j : Int) = k then z else y := by
  unfold over
  show (match (if (j : Int) = k then some z else none) with | some y => y | none => _) = _
  split <;> simp_all
/-- a Write of one entry that was just made -/
theorem writeOne {w1 w2 : World} {M : Dom} {B : Nat → Prop} {d l mb n : Nat} {lv : Int} {N : Nat} {V : Nat → List Int} {s : DS} {L : LS} (h : Live w1 M B d l mb n lv N V s L) (hN : N ≤ 1000) (B2 : Below w1.heap.size w1 w2) (g : Nat) (k : Int) (z : List Int) (hb : w2.heap[g]? = some (.cells (B8 z).toArray 5 (0, 0))) (hg : w1.heap.size ≤ g) (hz : z.length = 96) (hy : IsBytes z) (hk : 0 ≤ k ∧ k < homes n lv) :
    Calls Tryz.prog 33 #[.pointer (some ⟨l, 0, none⟩), .slice (some ⟨w2.heap.size, 0, none⟩) 1 1] (w2.alloc (.cells #[.int .i64 k, .slice (some ⟨g, 0, none⟩) 96 96] 63)) fun e w' => e = .returned (.int .i64 0) ∧ ∃ M' B' mb' s' L', LStep M B w1 M' B' w' ∧ Live w' M' B' d l mb' n lv (N + 1) (fun j => if (j : Int) = k then z else V j) s' L' := by
  have hlt := lt_of_blk hb
  have hl := h.ok.l
  have hn1 := h.ok.n1
  have hlv := h.leaves
  have hn := h.n
  have kB := B2.alloc B2.size (.cells #[.int .i64 k, .slice (some ⟨g, 0, none⟩) 96 96] 63)
  have hE : EntsAt (w2.alloc (.cells #[.int .i64 k, .slice (some ⟨g, 0, none⟩) 96 96] 63)) (inD M) (some ⟨w2.heap.size, 0, none⟩) 1 [(k, z)] :=
    ents_one (blk_new _ _) (((Below.refl _ _).alloc (Nat.le_refl _) _).block g hlt |>.trans hb) hz hy (by unfold homes at hk; omega) (h.sys.free B2.size) (h.sys.free hg)
  refine (writeU (h.below kB) hN _ 1 1 _ hE (by omega) (fun x hx => by obtain rfl : x = (k, z) := by simpa using hx
                                                                       exact hy)).mono ?_
  have hm := mayE_one (H := homes n lv) hk hz
  rintro e w' ⟨M', B', mb', s', L', LT, ⟨h1, -⟩ | ⟨-, h1, -⟩ | ⟨-, -, rfl, h1⟩⟩
  · rw [hm] at h1; cases h1
  · rw [show leavesN ([(k, z)] : List Ent).length = 2 from (by decide : leavesN ((1 : Nat) : Int) = 2)] at h1
    omega
  · refine ⟨rfl, M', B', mb', s', L', (LStep.of_below kB).trans LT, ?_⟩
    have e1 : (fun j => over [(k, z)] j (V j)) = fun (j : Nat) => if (j : Int) = k then z else V j := funext fun j => over_one k z j (V j)
    rwa [e1] at h1

theorem known5_any (w : World) : Calls Tryz.prog 6 #[] w fun e w' => e = .returned (.bool true) ∧ Below w.heap.size w w' := by
  go_enter Tryz.func6, Tryz.ntmps6
  go_wp2_with fail
  refine (found5_any 20 6 w (by omega) (by omega) (by decide)).mono ?_
  rintro e w1 ⟨M, B, d, l, mb, s, L, rfl, b⟩
  have HB := hid b
  have LV := hid b.live
  clear b
  go_wp2_with fail
  refine (leaves_any 1 w1 (by omega)).mono ?_
  rintro e w2 ⟨rfl, rfl⟩
  rw [show leavesN 1 = 2 by decide]
  go_wp2_with fail
  refine (leaves_any 6 w1 (by omega)).mono ?_
  rintro e w2 ⟨rfl, rfl⟩
  rw [show leavesN 6 = 10 by decide]
  go_wp2_with fail
  refine (page_any 9 w1).mono ?_
  rintro e w2 ⟨g, rfl, hb, hg, B2⟩
  go_wp2_with fail
  refine (writeOne LV.out (by omega) B2 g 4 _ hb hg (pageE_length 9) (pageE_bytes 9) (by decide)).mono ?_
  rintro e w3 ⟨rfl, M3, B3, mb3, s3, L3, T3, LV3⟩
  go_wp2_with fail
  refine (settleU LV3).mono ?_
  rintro e w4 ⟨rfl, M4, B4, mb4, s4, T4, LV4, Q4⟩
  go_wp2_with fail
  refine (fallU LV4 Q4 none 0 0 [] (-1) 0 (IntsAt.none _) (fun h => by omega)).mono ?_
  rintro e w5 ⟨rfl, M5, s5, D5, S5, ⟨P5, g5⟩, hn5, hl5, hv5, hu5, hr5, v5⟩
  go_wp2_with fail
  refine (openU D5 g5 hl5 hn5 hv5 hu5 hr5 v5 (by omega)).mono ?_
  rintro e w6 ⟨M6, B6, l6, mb6, s6, L6, rfl, T6, LV6, Q6, U6⟩
  go_wp2_with fail
  refine (lookU LV6 4 (by decide)).mono ?_
  rintro e w7 ⟨a7, c7, rfl, ho, h96, hby, LV7, T7⟩
  have SI := hid ((((HB.out.since.lstep T3).lstep T4).step S5).forget.lstep T6 |>.lstep T7)
  simp only [show ((4 : Nat) : Int) = 4 from rfl, if_true] at ho h96 hby
  obtain ⟨_, _, hve, -, -, -, hrow, -⟩ := row_of_owns ho
  cases hve
  have CV : ∀ W, Below w7.heap.size w7 W → (convert 45 9 (.slice (some a7) 96 c7)).run Tryz.prog W = .ok (.string (strOfNums (pageE 9))) W := fun W hW => conv_row Tryz.underlying45 Tryz.underlying5 Tryz.underlying9 c7 (hrow.below hW (Nat.le_refl _)) h96
  have HO : ∀ W, Below w7.heap.size w7 W → Calls Tryz.prog 25 #[.pointer (some ⟨l6, 0, none⟩)] W fun e w' => e = .returned (.int .i64 12) ∧ Below W.heap.size W w' := fun W hW => by
    refine (homeU (LV7.below hW)).mono ?_
    rintro e w' ⟨rfl, rfl⟩
    exact ⟨rfl, Below.refl _ _⟩
  have BL : ∀ W, Below w7.heap.size w7 W → Calls Tryz.prog 26 #[.pointer (some ⟨l6, 0, none⟩)] W fun e w' => e = .returned (.int .i64 6) ∧ Below W.heap.size W w' := fun W hW => by
    have := blankU (LV7.below hW)
    rw [U6] at this
    exact this
  clear ho h96 hby hrow LV7 T7 LV6 Q6 U6 T6 D5 S5 g5 hn5 hl5 hv5 hu5 hr5 v5 LV4 Q4 T4 LV3 T3 hb hg B2
  go_wp2_with fail
  refine wp_region_held_drew (S := fun W => (convert 45 9 (.slice (some a7) 96 c7)).run Tryz.prog W = .ok (.string (strOfNums (pageE 9))) W) (by kernel_rfl) (CV _ ((Below.refl w7.heap.size w7).drew)) (fun hHeld => ?_)
  refine wpAnyH_take (i := 0) (v := ?v1) (by simp only [List.getElem?_toArray, List.getElem?_cons_zero]; rfl) (by kernel_rfl) (by kernel_rfl) (by kernel_rfl) (by exact fun _ _ _ h => h) (Or.inl ⟨by rfl, ?h1⟩) (by assumption) ?r1
  case h1 => (intro w hSw; (try dsimp only at hSw); go_simp; try with_reducible rfl)
  try simp only [Act.put, List.setIfInBounds_toArray, List.set_cons_zero, List.set_cons_succ]
  refine wpAnyH_take (i := 1) (v := ?v2) (by simp only [List.getElem?_toArray, List.getElem?_cons_zero, List.getElem?_cons_succ]; rfl) (by kernel_rfl) (by kernel_rfl) (by kernel_rfl) (by exact fun _ _ _ h => h) (Or.inl ⟨by rfl, ?h2⟩) (by assumption) ?r2
  case h2 => (intro w hSw; (try dsimp only at hSw); go_simp; try with_reducible rfl)
  try simp only [Act.put, List.setIfInBounds_toArray, List.set_cons_zero, List.set_cons_succ]
  refine wpAnyH_take (i := 2) (v := ?v3) (by simp only [List.getElem?_toArray, List.getElem?_cons_zero, List.getElem?_cons_succ]; rfl) (by kernel_rfl) (by kernel_rfl) (by kernel_rfl) (by exact fun _ _ _ h => h) (Or.inl ⟨by rfl, ?h3⟩) (by assumption) ?r3
  case h3 => (intro w hSw; (try dsimp only at hSw); go_simp; try with_reducible rfl)
  try simp only [Act.put, List.setIfInBounds_toArray, List.set_cons_zero, List.set_cons_succ]
  refine wpAnyH_take (i := 3) (v := ?v4) (by simp only [List.getElem?_toArray, List.getElem?_cons_zero, List.getElem?_cons_succ]; rfl) (by kernel_rfl) (by kernel_rfl) (by kernel_rfl) (by exact fun _ _ _ h => h) (Or.inl ⟨by rfl, ?h4⟩) (by assumption) ?r4
  case h4 => (intro w hSw; (try dsimp only at hSw); go_simp; try with_reducible rfl)
  try simp only [Act.put, List.setIfInBounds_toArray, List.set_cons_zero, List.set_cons_succ]
  refine wpAnyH_take (i := 4) (v := ?v5) (by simp only [List.getElem?_toArray, List.getElem?_cons_zero, List.getElem?_cons_succ]; rfl) (by kernel_rfl) (by kernel_rfl) (by kernel_rfl) (by exact fun _ _ _ h => h) (Or.inl ⟨by rfl, ?h5⟩) (by assumption) ?r5
  case h5 => (intro w hSw; (try dsimp only at hSw); go_simp; try with_reducible rfl)
  try simp only [Act.put, List.setIfInBounds_toArray, List.set_cons_zero, List.set_cons_succ]
  refine wpAnyH_ready (rs := [5]) (by kernel_rfl) (by simp) ?_
  refine (AllReadyH.cons (by simp only [List.getElem?_toArray, List.getElem?_cons_zero, List.getElem?_cons_succ]; rfl) (fun K hK => ?_) AllReadyH.nil)
  go_simp
  go_at_call 47
  refine (page_any 9 w7.drew).mono ?_
  rintro e wq6 ⟨g6, rfl, hb6, hg6, C6⟩
  have BB6 := ((Below.refl w7.heap.size w7).drew).trans (C6.mono (Below.size ((Below.refl w7.heap.size w7).drew)))
  refine hK.out _ _ (CV _ BB6) (fun hH7 => ?_)
  clear hK
  try simp only [Act.put, List.setIfInBounds_toArray, List.set_cons_zero, List.set_cons_succ]
  refine wpAnyH_ready (rs := [6]) (by kernel_rfl) (by simp) ?_
  refine (AllReadyH.cons (by simp only [List.getElem?_toArray, List.getElem?_cons_zero, List.getElem?_cons_succ]; rfl) (fun K hK => ?_) AllReadyH.nil)
  have kc8 := conv_row (P := Tryz.prog) Tryz.underlying45 Tryz.underlying5 Tryz.underlying9 96 (row_blk hb6) (pageE_length 9)
  go_simp
  refine hK.out _ _ (CV _ BB6) (fun hH9 => ?_)
  clear hK
  try simp only [Act.put, List.setIfInBounds_toArray, List.set_cons_zero, List.set_cons_succ]
  refine wpAnyH_take (i := 7) (v := ?v10) (by simp only [List.getElem?_toArray, List.getElem?_cons_zero, List.getElem?_cons_succ]; rfl) (by kernel_rfl) (by kernel_rfl) (by kernel_rfl) (by exact fun _ _ _ h => h) (Or.inl ⟨by rfl, ?h10⟩) (by assumption) ?r10
  case h10 => (intro w hSw; (try dsimp only at hSw); go_simp; try with_reducible rfl)
  try simp only [Act.put, List.setIfInBounds_toArray, List.set_cons_zero, List.set_cons_succ]
  refine wpAnyH_take (i := 8) (v := ?v11) (by simp only [List.getElem?_toArray, List.getElem?_cons_zero, List.getElem?_cons_succ]; rfl) (by kernel_rfl) (by kernel_rfl) (by kernel_rfl) (by exact fun _ _ _ h => h) (Or.inl ⟨by rfl, ?h11⟩) (by assumption) ?r11
  case h11 => (intro w hSw; (try dsimp only at hSw); go_simp; try with_reducible rfl)
  try simp only [Act.put, List.setIfInBounds_toArray, List.set_cons_zero, List.set_cons_succ]
  refine wpAnyH_take (i := 9) (v := ?v12) (by simp only [List.getElem?_toArray, List.getElem?_cons_zero, List.getElem?_cons_succ]; rfl) (by kernel_rfl) (by kernel_rfl) (by kernel_rfl) (by exact fun _ _ _ h => h) (Or.inl ⟨by rfl, ?h12⟩) (by assumption) ?r12
  case h12 => (intro w hSw; (try dsimp only at hSw); go_simp; try with_reducible rfl)
  try simp only [Act.put, List.setIfInBounds_toArray, List.set_cons_zero, List.set_cons_succ]
  refine wpAnyH_take (i := 10) (v := ?v13) (by simp only [List.getElem?_toArray, List.getElem?_cons_zero, List.getElem?_cons_succ]; rfl) (by kernel_rfl) (by kernel_rfl) (by kernel_rfl) (by exact fun _ _ _ h => h) (Or.inl ⟨by rfl, ?h13⟩) (by assumption) ?r13
  case h13 => (intro w hSw; (try dsimp only at hSw); go_simp; try with_reducible rfl)
  try simp only [Act.put, List.setIfInBounds_toArray, List.set_cons_zero, List.set_cons_succ]
  refine wpAnyH_ready (rs := [11]) (by kernel_rfl) (by simp) ?_
  refine (AllReadyH.cons (by simp only [List.getElem?_toArray, List.getElem?_cons_zero, List.getElem?_cons_succ]; rfl) (fun K hK => ?_) AllReadyH.nil)
  go_simp
  go_at_call 25
  refine (HO _ (BB6)).mono ?_
  rintro e wq14 ⟨rfl, C14⟩
  have BB14 := (BB6).trans (C14.mono (Below.size (BB6)))
  refine hK.out _ _ (CV _ BB14) (fun hH15 => ?_)
  clear hK
  try simp only [Act.put, List.setIfInBounds_toArray, List.set_cons_zero, List.set_cons_succ]
  refine wpAnyH_take (i := 12) (v := ?v16) (by simp only [List.getElem?_toArray, List.getElem?_cons_zero, List.getElem?_cons_succ]; rfl) (by kernel_rfl) (by kernel_rfl) (by kernel_rfl) (by exact fun _ _ _ h => h) (Or.inl ⟨by rfl, ?h16⟩) (by assumption) ?r16
  case h16 => (intro w hSw; (try dsimp only at hSw); go_simp; try with_reducible rfl)
  try simp only [Act.put, List.setIfInBounds_toArray, List.set_cons_zero, List.set_cons_succ]
  refine wpAnyH_take (i := 13) (v := ?v17) (by simp only [List.getElem?_toArray, List.getElem?_cons_zero, List.getElem?_cons_succ]; rfl) (by kernel_rfl) (by kernel_rfl) (by kernel_rfl) (by exact fun _ _ _ h => h) (Or.inl ⟨by rfl, ?h17⟩) (by assumption) ?r17
  case h17 => (intro w hSw; (try dsimp only at hSw); go_simp; try with_reducible rfl)
  try simp only [Act.put, List.setIfInBounds_toArray, List.set_cons_zero, List.set_cons_succ]
  refine wpAnyH_take (i := 14) (v := ?v18) (by simp only [List.getElem?_toArray, List.getElem?_cons_zero, List.getElem?_cons_succ]; rfl) (by kernel_rfl) (by kernel_rfl) (by kernel_rfl) (by exact fun _ _ _ h => h) (Or.inl ⟨by rfl, ?h18⟩) (by assumption) ?r18
  case h18 => (intro w hSw; (try dsimp only at hSw); go_simp; try with_reducible rfl)
  try simp only [Act.put, List.setIfInBounds_toArray, List.set_cons_zero, List.set_cons_succ]
  refine wpAnyH_take (i := 15) (v := ?v19) (by simp only [List.getElem?_toArray, List.getElem?_cons_zero, List.getElem?_cons_succ]; rfl) (by kernel_rfl) (by kernel_rfl) (by kernel_rfl) (by exact fun _ _ _ h => h) (Or.inl ⟨by rfl, ?h19⟩) (by assumption) ?r19
  case h19 => (intro w hSw; (try dsimp only at hSw); go_simp; try with_reducible rfl)
  try simp only [Act.put, List.setIfInBounds_toArray, List.set_cons_zero, List.set_cons_succ]
  refine wpAnyH_ready (rs := [16]) (by kernel_rfl) (by simp) ?_
  refine (AllReadyH.cons (by simp only [List.getElem?_toArray, List.getElem?_cons_zero, List.getElem?_cons_succ]; rfl) (fun K hK => ?_) AllReadyH.nil)
  go_simp
  go_at_call 26
  refine (BL _ (BB14)).mono ?_
  rintro e wq20 ⟨rfl, C20⟩
  have BB20 := (BB14).trans (C20.mono (Below.size (BB14)))
  refine hK.out _ _ (CV _ BB20) (fun hH21 => ?_)
  clear hK
  try simp only [Act.put, List.setIfInBounds_toArray, List.set_cons_zero, List.set_cons_succ]
  refine wpAnyH_take (i := 17) (v := ?v22) (by simp only [List.getElem?_toArray, List.getElem?_cons_zero, List.getElem?_cons_succ]; rfl) (by kernel_rfl) (by kernel_rfl) (by kernel_rfl) (by exact fun _ _ _ h => h) (Or.inl ⟨by rfl, ?h22⟩) (by assumption) ?r22
  case h22 => (intro w hSw; (try dsimp only at hSw); go_simp; try with_reducible rfl)
  try simp only [Act.put, List.setIfInBounds_toArray, List.set_cons_zero, List.set_cons_succ]
  refine wpAnyH_take (i := 18) (v := ?v23) (by simp only [List.getElem?_toArray, List.getElem?_cons_zero, List.getElem?_cons_succ]; rfl) (by kernel_rfl) (by kernel_rfl) (by kernel_rfl) (by exact fun _ _ _ h => h) (Or.inl ⟨by rfl, ?h23⟩) (by assumption) ?r23
  case h23 => (intro w hSw; (try dsimp only at hSw); go_simp; try with_reducible rfl)
  try simp only [Act.put, List.setIfInBounds_toArray, List.set_cons_zero, List.set_cons_succ]
  refine wpAnyH_take (i := 19) (v := ?v24) (by simp only [List.getElem?_toArray, List.getElem?_cons_zero, List.getElem?_cons_succ]; rfl) (by kernel_rfl) (by kernel_rfl) (by kernel_rfl) (by exact fun _ _ _ h => h) (Or.inl ⟨by rfl, ?h24⟩) (by assumption) ?r24
  case h24 => (intro w hSw; (try dsimp only at hSw); go_simp; try with_reducible rfl)
  try simp only [Act.put, List.setIfInBounds_toArray, List.set_cons_zero, List.set_cons_succ]
  refine wpAnyH_done (by kernel_rfl) ?_ _
  have BE := hid (BB20)
  go_wp2_with fail
  go_ret
  exact ⟨rfl, SI.out.below.trans (BE.out.mono SI.out.below.size)⟩
end Go.Proofs.YtddcggdbnhmoiaaGreat

/- a ledger and a drum beside other blocks -/
open Go Go.RowKit
namespace Go.Proofs.YtddcggdbnhmoiaaGreat

theorem LedP.addX {w w' : World} {M : Dom} {B F : Nat → Prop} {d l mb : Nat} {L : LS} (h : LedP w M B d l mb L) (k : Below w.heap.size w w') (hF : ∀ q, F q → w.heap.size ≤ q ∧ q < w'.heap.size) : LedP w' (M.addX F) B d l mb L := by
  have kx := Ext.of_below k (fun _ => False)
  exact ⟨kx.blk id h.obj, h.tkn.step kx (fun _ hf => hf.elim) id (fun q hq => hq.elim (fun h => .inl (.inl h)) (fun h => h.elim (fun h => .inl (.inr h)) (fun h => .inr (hF q h).1))), h.bl, h.bm, fun q hq => ⟨.inl (h.bx q hq).1, (h.bx q hq).2⟩, fun q hq => Nat.lt_of_lt_of_le (h.bs q hq) k.size⟩
theorem Sys.addX {w w' : World} {M : Dom} {B F : Nat → Prop} {d l mb : Nat} {s : DS} {L : LS} (h : Sys w M B d l mb s L) (k : Below w.heap.size w w') (hF : ∀ q, F q → w.heap.size ≤ q ∧ q < w'.heap.size) : Sys w' (M.addX F) B d l mb s L :=
  ⟨h.drum.addX k hF, h.led.addX k hF⟩
theorem Sys.wrote {w w' : World} {M : Dom} {B F : Nat → Prop} {d l mb : Nat} {s : DS} {L : LS} (h : Sys w M B d l mb s L) (k : Ext F w w') (hX : ∀ q, F q → M.X q) (hN : ∀ q, F q → ¬ M q ∧ ¬ B q) : Sys w' M B d l mb s L :=
  ⟨h.drum.other k hX (fun q hq => (hN q hq).1), ⟨k.blk (fun hf => (hN _ hf).2 h.led.bl) h.led.obj, h.led.tkn.step k (fun q hq => .inr (hX q hq)) (fun hf => (hN _ hf).2 h.led.bm) (fun q hq => .inl hq), h.led.bl, h.led.bm, h.led.bx, fun q hq => Nat.lt_of_lt_of_le (h.led.bs q hq) k.size⟩⟩
theorem Live.addX {w w' : World} {M : Dom} {B F : Nat → Prop} {d l mb n : Nat} {lv : Int} {N : Nat} {V : Nat → List Int} {s : DS} {L : LS} (h : Live w M B d l mb n lv N V s L) (k : Below w.heap.size w w') (hF : ∀ q, F q → w.heap.size ≤ q ∧ q < w'.heap.size) : Live w' (M.addX F) B d l mb n lv N V s L :=
  ⟨h.sys.addX k hF, h.full, h.n, h.leaves, h.up, h.round, h.last, h.v⟩
theorem Live.wrote {w w' : World} {M : Dom} {B F : Nat → Prop} {d l mb n : Nat} {lv : Int} {N : Nat} {V : Nat → List Int} {s : DS} {L : LS} (h : Live w M B d l mb n lv N V s L) (k : Ext F w w') (hX : ∀ q, F q → M.X q) (hN : ∀ q, F q → ¬ M q ∧ ¬ B q) : Live w' M B d l mb n lv N V s L :=
  ⟨h.sys.wrote k hX hN, h.full, h.n, h.leaves, h.up, h.round, h.last, h.v⟩

theorem mayFrom_keys {H : Int} : ∀ {l : List Ent} {seen : List Int}, mayFrom H l seen = true → ∀ x ∈ l, 0 ≤ x.1 ∧ x.1 < H
  | [], _, _, _, hx => by cases hx
  | y :: r, seen, h, x, hx => by
    unfold mayFrom at h
    simp only [Bool.and_eq_true, decide_eq_true_eq] at h
    rcases List.mem_cons.1 hx with rfl | hx
    · exact ⟨h.1.1, h.1.2.1⟩
    · exact mayFrom_keys h.2 x hx
theorem mayE_keys {l : List Ent} {H : Int} (h : mayE l H = true) : ∀ x ∈ l, 0 ≤ x.1 ∧ x.1 < H := by
  unfold mayE at h
  simp only [Bool.and_eq_true] at h
  exact mayFrom_keys h.1
theorem over_snoc (el : List Ent) (x : Ent) (j : Nat) (y : List Int) : over (el ++ [x]) j y = if (j : Int) = x.1 then x.2 else over el j y := by
  have e : putL (fun _ => none) (el ++ [x]) = putE (putL (fun _ => none) el) x := by unfold putL; rw [List.foldl_append]; rfl
  unfold over
  rw [e]
  unfold putE
  by_cases h : (j : Int) = x.1
  · rw [if_pos h, if_pos h]
  · rw [if_neg h, if_neg h]
theorem over_nil (j : Nat) (y : List Int) : over [] j y = y := rfl

end Go.Proofs.YtddcggdbnhmoiaaGreat
