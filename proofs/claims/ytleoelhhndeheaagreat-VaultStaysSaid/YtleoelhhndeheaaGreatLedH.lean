/- package ledger: read -/
import Derived.Test.YtleoelhhndeheaaGreatLedG
import Derived.Test.YtleoelhhndeheaaGreatLedF
open Go Go.RowKit
namespace Go.Proofs.YtleoelhhndeheaaGreat

theorem look_up {w : World} {M : Dom} {d : Nat} {s : DS} (h : DrumAt w M d s) (hb : s.broken = false) (k : Nat) (hk : k < s.n) :
    Calls Tryz.prog 20 #[.pointer (some ⟨d, 0, none⟩), .int .i64 (k : Int)] w fun e w' => ∃ g c, e = .returned (.tuple #[.slice (some ⟨g, 0, none⟩) 96 c, .int .i64 0]) ∧ w'.ownsRow w.heap.size 5 1 (.slice (some ⟨g, 0, none⟩) 96 c) 96 (B8 (s.now k)) ∧ (s.now k).length = 96 ∧ IsBytes (s.now k) ∧ 96 ≤ c ∧ Below w.heap.size w w' := by
  refine (look_any h k).mono ?_
  rintro e w' ⟨h | h | h, hB⟩
  · exact absurd ⟨by omega, by omega⟩ h.1
  · rw [hb] at h; exact absurd h.2.2.1 (by simp)
  · obtain ⟨-, -, -, a, c, he, h1, h2, h3⟩ := h
    obtain ⟨g, c', e1, e2⟩ := owns_some h1 (by decide)
    cases e1
    exact ⟨g, c, he, by simpa using h1, by simpa using h2, by simpa using h3, e2, hB⟩
theorem look_down {w : World} {M : Dom} {d : Nat} {s : DS} (h : DrumAt w M d s) (hb : s.broken = true) (k : Nat) (hk : k < s.n) :
    Calls Tryz.prog 20 #[.pointer (some ⟨d, 0, none⟩), .int .i64 (k : Int)] w fun e w' => e = .returned (.tuple #[.slice none 0 0, .int .i64 4]) ∧ Below w.heap.size w w' := by
  refine (look_any h k).mono ?_
  rintro e w' ⟨h | h | h, hB⟩
  · exact absurd ⟨by omega, by omega⟩ h.1
  · exact ⟨h.2.2.2, hB⟩
  · rw [hb] at h; exact absurd h.2.2.1 (by simp)

def bestK (s : DS) : Nat → Int × Int
  | 0 => (0, 0)
  | k + 1 => better s k (bestK s k)
/-- a struct in a cell, and a number beside it -/
theorem results_cell_tmp {P : Program} {fn : Func} {p q : Tmp} {ty : TypeId} (h : fn.results = #[.cell p ty, .tmp q]) (tmps : Array Value) (w : World) (g : Nat) (t : TypeId) (cs : Array Value) (fr : Nat × Nat) (d : TypeDesc) (v : Value)
    (hp : tmps.getD p undef = .pointer (some ⟨g, 0, none⟩)) (hq : tmps.getD q undef = v) (hg : w.heap[g]? = some (.cells cs t fr))
    (hu : P.underlying ty = some d) (hd : (match d with | .struct _ | .array _ _ => true | _ => false) = true) (hi : (P.info? ty).map (·.size) = some cs.size) :
    (results fn tmps).run P w = .ok (.tuple #[.agg cs, v]) w := by
  have hp' : tmps[p]?.getD undef = .pointer (some ⟨g, 0, none⟩) := by simpa using hp
  have hq' : tmps[q]?.getD undef = v := by simpa using hq
  simp [results, h, hp', hq', asAddr, run_loadVar_row w g t ty cs fr d hg hu hd hi]

/-- the call's code -/
def readCode (s : DS) : Int := if (readC s).1 = 0 then 11 else 0
theorem bestK_zero (s : DS) : ∀ k, 0 ≤ (bestK s k).1 ∧ ((bestK s k).1 = 0 → bestK s k = (0, 0))
  | 0 => ⟨Int.le_refl _, fun _ => rfl⟩
  | k + 1 => by
    have ih := bestK_zero s k
    show 0 ≤ (better s k (bestK s k)).1 ∧ _
    by_cases h : isCover s k = true ∧ (bestK s k).1 < num (cut (s.now k) 0 4)
    · have e : bestK s (k + 1) = (num (cut (s.now k) 0 4), num (cut (s.now k) 4 2)) := by show better s k (bestK s k) = _; unfold better; rw [if_pos h]
      have e2 : better s k (bestK s k) = (num (cut (s.now k) 0 4), num (cut (s.now k) 4 2)) := e
      rw [e, e2]
      exact ⟨by show 0 ≤ num _; omega, fun h0 => by have : num (cut (s.now k) 0 4) = 0 := h0; omega⟩
    · have e : bestK s (k + 1) = bestK s k := by show better s k (bestK s k) = _; unfold better; rw [if_neg h]
      have e2 : better s k (bestK s k) = bestK s k := e
      rw [e, e2]
      exact ih
theorem readC_zero {s : DS} (h : (readC s).1 = 0) : readC s = (0, 0) := (bestK_zero s 2).2 h
theorem bestK_two (s : DS) : bestK s 2 = readC s := rfl
def Cov (w : World) (b : Nat) (x y : Int) : Prop := w.heap[b]? = some (.cells #[.int .i64 x, .int .i64 y] 120 (0, 0))
theorem Cov.below {w w' : World} {b : Nat} {x y : Int} (h : Cov w b x y) {B : Nat} (k : Below B w w') (hB : w.heap.size ≤ B) : Cov w' b x y :=
  (k.block b (Nat.lt_of_lt_of_le (lt_of_blk h) hB)).trans h
theorem Cov.c0 {w : World} {b : Nat} {x y : Int} (h : Cov w b x y) : w.cell? ⟨b, 0, none⟩ = some (.int .i64 x) := blk_cell h rfl
theorem Cov.c1 {w : World} {b : Nat} {x y : Int} (h : Cov w b x y) : w.cell? ⟨b, 1, none⟩ = some (.int .i64 y) := blk_cell h rfl
theorem Cov.put {w : World} {b : Nat} {x y : Int} (h : Cov w b x y) (u v : Int) : Cov ((w.setCell ⟨b, 0, none⟩ (.int .i64 u)).setCell ⟨b, 1, none⟩ (.int .i64 v)) b u v := by
  have h1 := blk_setCell (o := 0) h (.int .i64 u)
  have h2 := blk_setCell (o := 1) h1 (.int .i64 v)
  exact h2
theorem Cov.other {w : World} {b c o : Nat} {x y : Int} {v : Value} (h : Cov w b x y) (hne : b ≠ c) : Cov (w.setCell ⟨c, o, none⟩ v) b x y :=
  (Below.heap_setCell _ _ _ _ hne).trans h
theorem below_set {B : Nat} {w0 w : World} (h : Below B w0 w) {b o : Nat} {v : Value} (hb : B ≤ b) : Below B w0 (w.setCell ⟨b, o, none⟩ v) := h.setCell hb _

set_option maxRecDepth 100000 in
set_option maxHeartbeats 8000000 in
theorem read_up {w : World} {M : Dom} {d : Nat} {s : DS} (h : DrumAt w M d s) (hb : s.broken = false) (hn2 : 2 ≤ s.n) :
    Calls Tryz.prog 73 #[.pointer (some ⟨d, 0, none⟩)] w fun e w' => e = .returned (.tuple #[.agg #[.int .i64 (readC s).1, .int .i64 (readC s).2], .int .i64 (readCode s)]) ∧ Below w.heap.size w w' := by
  have DH := hid h
  have hn1 : s.n ≤ 1000000 := by obtain ⟨p, -, h⟩ := h; exact h.n1
  obtain ⟨W0, hW0⟩ : ∃ W0, (w.alloc (.cells #[.int .i64 0, .int .i64 0] 120)).alloc (.cells #[.int .i64 0, .int .i64 0] 120) = W0 := ⟨_, rfl⟩
  have BW0 : Below w.heap.size w W0 := by rw [← hW0]; exact ((Below.refl _ _).alloc (Nat.le_refl _) _).alloc (by simp) _
  obtain ⟨rb, hrb⟩ : ∃ rb, w.heap.size = rb := ⟨_, rfl⟩
  have HRB := hid hrb
  have C1 : Cov W0 rb 0 0 := by rw [← hW0, ← hrb]; exact blk_old _ (blk_new _ _)
  have C2 : Cov W0 (rb + 1) 0 0 := by rw [← hW0, ← hrb]; exact blk_at _ (by simp)
  have HB := hid hb
  clear h hb
  go_enter Tryz.func73, Tryz.ntmps73
  go_wp2_with fail
  go_loopw [9] (fun i wr => ∃ k : Nat, i = .int .i64 k ∧ k ≤ 2 ∧ Hid (Cov wr rb 0 0) ∧ Hid (Cov wr (rb + 1) (bestK s k).1 (bestK s k).2) ∧ Hid (Below rb w wr)) (fun i _ => 2 - (intOf i).toNat)
  case atStart => exact ⟨0, rfl, by omega, hid C1, hid C2, hid (by rw [← hrb]; exact BW0)⟩
  case round =>
    obtain ⟨k, rfl, hk, CR, CB, BR⟩ := hrel
    have szr : rb ≤ wr.heap.size := by have := BR.out.size; omega
    by_cases hlt : k < 2
    · have DK := DH.out.below (BR.out.mono (by omega) : Below w.heap.size w wr)
      have LK := look_up DK HB.out k (by omega)
      obtain ⟨z, hz⟩ : ∃ z, s.now k = z := ⟨_, rfl⟩
      rw [hz] at LK
      have HZ := hid hz
      have TR := fun (W : World) (B : Below wr.heap.size wr W) => tracks_any (DK.below B)
      clear hz DK
      go_wp2_with fail
      refine LK.mono ?_
      rintro e w1 ⟨g, c, rfl, ho, hz96, hzb, hc96, B1⟩
      obtain ⟨_, _, e8, rz, -, -, -⟩ := own96 ho
      cases e8
      have CR1 := hid (CR.out.below B1 (Nat.le_refl _))
      have CB1 := hid (CB.out.below B1 (Nat.le_refl _))
      have BR1 := hid (BR.out.trans (B1.mono szr))
      have HZB := hid hzb
      have HZ96 := hid hz96
      have q1 : (4 : Int) ≤ (c : Int) := by omega
      have q2 : (6 : Int) ≤ (c : Int) := by omega
      have q3 : ¬ (c = 4) := by omega
      obtain ⟨n1, hn1', hn1b⟩ : ∃ n1 : Int, num (cut z 0 4) = n1 ∧ 0 ≤ n1 ∧ n1 < 4294967296 := ⟨_, rfl, num_bd (cut_bytes hzb 0 4) (by unfold cut; simp; omega)⟩
      obtain ⟨n2, hn2', hn2b⟩ : ∃ n2 : Int, num (cut z 4 2) = n2 ∧ 0 ≤ n2 ∧ n2 < 65536 := ⟨_, rfl, num_bd2' hzb 4⟩
      have NA := fun (W : World) (B : Below w1.heap.size w1 W) => lnumber_any (some ⟨g, 0, none⟩) 4 c (cut z 0 4) W ((rz.cut0 0 4).below B (Nat.le_refl _)) (cut_length (by omega)) (by decide) (cut_bytes hzb 0 4)
      have NB := fun (W : World) (B : Below w1.heap.size w1 W) => lnumber_any (some ⟨g, 4, none⟩) 2 (c - 4) (cut z 4 2) W ((rz.cut0 4 2).below B (Nat.le_refl _)) (cut_length (by omega)) (by decide) (cut_bytes hzb 4 2)
      rw [hn1'] at NA
      rw [hn2'] at NB
      have HN1 := hid hn1'
      have HN2 := hid hn2'
      have SB : ∀ W, Below w1.heap.size w1 W → Below w1.heap.size w1 W ∧ True := fun W h => ⟨h, trivial⟩
      have RZ1 := hid rz
      have B1H := hid B1
      clear LK ho hz96 hzb hn1' hn2' rz CR CB BR B1
      go_upto_region 8 with fail
      go_cut [8] (fun v W => ∃ cb : Nat, v = .pointer (some ⟨cb, 0, none⟩) ∧ Hid (Cov W cb n1 n2) ∧ Hid (Below w1.heap.size w1 W))
      case first =>
        refine wp_region_held_drew (S := fun w' => Below w1.heap.size w1 w' ∧ True) (by kernel_rfl) (SB _ ((Below.refl w1.heap.size w1).drew)) (fun hHeld => ?_)
        refine wpAnyH_take (i := 0) (v := ?v1) (by simp only [List.getElem?_toArray, List.getElem?_cons_zero]; rfl) (by kernel_rfl) (by kernel_rfl) (by kernel_rfl) (by exact fun _ _ _ h => h) (Or.inl ⟨by rfl, ?h1⟩) (by assumption) ?r1
        case h1 => (intro w hSw; (try dsimp only at hSw); go_simp; try with_reducible rfl)
        try simp only [Act.put, List.setIfInBounds_toArray, List.set_cons_zero, List.set_cons_succ]
        refine wpAnyH_take (i := 1) (v := ?v2) (by simp only [List.getElem?_toArray, List.getElem?_cons_zero, List.getElem?_cons_succ]; rfl) (by kernel_rfl) (by kernel_rfl) (by kernel_rfl) (by exact fun _ _ _ h => h) (Or.inl ⟨by rfl, ?h2⟩) (by assumption) ?r2
        case h2 => (intro w hSw; (try dsimp only at hSw); go_simp; try with_reducible rfl)
        try simp only [Act.put, List.setIfInBounds_toArray, List.set_cons_zero, List.set_cons_succ]
        refine wpAnyH_take (i := 3) (v := ?v3) (by simp only [List.getElem?_toArray, List.getElem?_cons_zero, List.getElem?_cons_succ]; rfl) (by kernel_rfl) (by kernel_rfl) (by kernel_rfl) (by exact fun _ _ _ h => h) (Or.inl ⟨by rfl, ?h3⟩) (by assumption) ?r3
        case h3 => (intro w hSw; (try dsimp only at hSw); go_simp; try with_reducible rfl)
        try simp only [Act.put, List.setIfInBounds_toArray, List.set_cons_zero, List.set_cons_succ]
        refine wpAnyH_take (i := 4) (v := ?v4) (by simp only [List.getElem?_toArray, List.getElem?_cons_zero, List.getElem?_cons_succ]; rfl) (by kernel_rfl) (by kernel_rfl) (by kernel_rfl) (by exact fun _ _ _ h => h) (Or.inl ⟨by rfl, ?h4⟩) (by assumption) ?r4
        case h4 => (intro w hSw; (try dsimp only at hSw); go_simp; try with_reducible rfl)
        try simp only [Act.put, List.setIfInBounds_toArray, List.set_cons_zero, List.set_cons_succ]
        refine wpAnyH_ready (rs := [2, 7]) (by kernel_rfl) (by simp) ?_
        refine (AllReadyH.cons (by simp only [List.getElem?_toArray, List.getElem?_cons_zero, List.getElem?_cons_succ]; rfl) (fun K hK => ?_) (AllReadyH.cons (by simp only [List.getElem?_toArray, List.getElem?_cons_zero, List.getElem?_cons_succ]; rfl) (fun K hK => ?_) AllReadyH.nil))
        · go_simp
          go_at_call 99
          refine (NA _ ((Below.refl w1.heap.size w1).drew)).mono ?_
          rintro e wq5 ⟨rfl, rfl⟩
          refine hK.out _ _ (SB _ (Below.refl w1.heap.size w1).drew) (fun hH6 => ?_)
          clear hK
          try simp only [Act.put, List.setIfInBounds_toArray, List.set_cons_zero, List.set_cons_succ]
          refine wpAnyH_ready (rs := [5, 7]) (by kernel_rfl) (by simp) ?_
          refine (AllReadyH.cons (by simp only [List.getElem?_toArray, List.getElem?_cons_zero, List.getElem?_cons_succ]; rfl) (fun K hK => ?_) (AllReadyH.cons (by simp only [List.getElem?_toArray, List.getElem?_cons_zero, List.getElem?_cons_succ]; rfl) (fun K hK => ?_) AllReadyH.nil))
          · go_simp
            go_at_call 99
            refine (NB _ ((Below.refl w1.heap.size w1).drew)).mono ?_
            rintro e wq7 ⟨rfl, rfl⟩
            refine hK.out _ _ (SB _ (Below.refl w1.heap.size w1).drew) (fun hH8 => ?_)
            clear hK
            try simp only [Act.put, List.setIfInBounds_toArray, List.set_cons_zero, List.set_cons_succ]
            refine wpAnyH_take (i := 6) (v := ?v9) (by simp only [List.getElem?_toArray, List.getElem?_cons_zero, List.getElem?_cons_succ]; rfl) (by kernel_rfl) (by kernel_rfl) (by kernel_rfl) (by exact fun _ _ _ h => h) (Or.inl ⟨by rfl, ?h9⟩) (by assumption) ?r9
            case h9 => (intro w hSw; (try dsimp only at hSw); go_simp; try with_reducible rfl)
            try simp only [Act.put, List.setIfInBounds_toArray, List.set_cons_zero, List.set_cons_succ]
            refine wpAnyH_ready (rs := [7]) (by kernel_rfl) (by simp) ?_
            refine (AllReadyH.cons (by simp only [List.getElem?_toArray, List.getElem?_cons_zero, List.getElem?_cons_succ]; rfl) (fun K hK => ?_) AllReadyH.nil)
            go_simp
            have BB11 := ((Below.refl w1.heap.size w1).drew).alloc (Below.size ((Below.refl w1.heap.size w1).drew)) (.cells #[.int .i64 0, .int .i64 0] 120)
            refine hK.out _ _ (SB _ BB11) (fun hH12 => ?_)
            clear hK
            try simp only [Act.put, List.setIfInBounds_toArray, List.set_cons_zero, List.set_cons_succ]
            refine wpAnyH_ready (rs := [8]) (by kernel_rfl) (by simp) ?_
            refine (AllReadyH.cons (by simp only [List.getElem?_toArray, List.getElem?_cons_zero, List.getElem?_cons_succ]; rfl) (fun K hK => ?_) AllReadyH.nil)
            go_simp
            have CP13 : Cov ((w1.alloc (.cells #[.int .i64 n1, .int .i64 n2] 120)).drew) w1.heap.size n1 n2 := blk_new w1 _
            have BB13 := ((Below.refl w1.heap.size w1).alloc (Nat.le_refl _) (.cells #[.int .i64 n1, .int .i64 n2] 120)).drew
            refine hK.out _ _ (SB _ BB13) (fun hH14 => ?_)
            clear hK
            try simp only [Act.put, List.setIfInBounds_toArray, List.set_cons_zero, List.set_cons_succ]
            refine wpAnyH_done (by kernel_rfl) ?_ _
            go_wp2_with fail
            go_meet
            exact ⟨_, rfl, hid CP13, hid BB13⟩
          · go_simp
            have BB16 := ((Below.refl w1.heap.size w1).drew).alloc (Below.size ((Below.refl w1.heap.size w1).drew)) (.cells #[.int .i64 0, .int .i64 0] 120)
            refine hK.out _ _ (SB _ BB16) (fun hH17 => ?_)
            clear hK
            try simp only [Act.put, List.setIfInBounds_toArray, List.set_cons_zero, List.set_cons_succ]
            refine wpAnyH_ready (rs := [5]) (by kernel_rfl) (by simp) ?_
            refine (AllReadyH.cons (by simp only [List.getElem?_toArray, List.getElem?_cons_zero, List.getElem?_cons_succ]; rfl) (fun K hK => ?_) AllReadyH.nil)
            go_simp
            go_at_call 99
            refine (NB _ (BB16)).mono ?_
            rintro e wq18 ⟨rfl, rfl⟩
            refine hK.out _ _ (SB _ BB16) (fun hH19 => ?_)
            clear hK
            try simp only [Act.put, List.setIfInBounds_toArray, List.set_cons_zero, List.set_cons_succ]
            refine wpAnyH_take (i := 6) (v := ?v20) (by simp only [List.getElem?_toArray, List.getElem?_cons_zero, List.getElem?_cons_succ]; rfl) (by kernel_rfl) (by kernel_rfl) (by kernel_rfl) (by exact fun _ _ _ h => h) (Or.inl ⟨by rfl, ?h20⟩) (by assumption) ?r20
            case h20 => (intro w hSw; (try dsimp only at hSw); go_simp; try with_reducible rfl)
            try simp only [Act.put, List.setIfInBounds_toArray, List.set_cons_zero, List.set_cons_succ]
            refine wpAnyH_ready (rs := [8]) (by kernel_rfl) (by simp) ?_
            refine (AllReadyH.cons (by simp only [List.getElem?_toArray, List.getElem?_cons_zero, List.getElem?_cons_succ]; rfl) (fun K hK => ?_) AllReadyH.nil)
            go_simp
            have CP21 : Cov ((w1.alloc (.cells #[.int .i64 n1, .int .i64 n2] 120)).drew) w1.heap.size n1 n2 := blk_new w1 _
            have BB21 := ((Below.refl w1.heap.size w1).alloc (Nat.le_refl _) (.cells #[.int .i64 n1, .int .i64 n2] 120)).drew
            refine hK.out _ _ (SB _ BB21) (fun hH22 => ?_)
            clear hK
            try simp only [Act.put, List.setIfInBounds_toArray, List.set_cons_zero, List.set_cons_succ]
            refine wpAnyH_done (by kernel_rfl) ?_ _
            go_wp2_with fail
            go_meet
            exact ⟨_, rfl, hid CP21, hid BB21⟩
        · go_simp
          have BB24 := ((Below.refl w1.heap.size w1).drew).alloc (Below.size ((Below.refl w1.heap.size w1).drew)) (.cells #[.int .i64 0, .int .i64 0] 120)
          refine hK.out _ _ (SB _ BB24) (fun hH25 => ?_)
          clear hK
          try simp only [Act.put, List.setIfInBounds_toArray, List.set_cons_zero, List.set_cons_succ]
          refine wpAnyH_ready (rs := [2]) (by kernel_rfl) (by simp) ?_
          refine (AllReadyH.cons (by simp only [List.getElem?_toArray, List.getElem?_cons_zero, List.getElem?_cons_succ]; rfl) (fun K hK => ?_) AllReadyH.nil)
          go_simp
          go_at_call 99
          refine (NA _ (BB24)).mono ?_
          rintro e wq26 ⟨rfl, rfl⟩
          refine hK.out _ _ (SB _ BB24) (fun hH27 => ?_)
          clear hK
          try simp only [Act.put, List.setIfInBounds_toArray, List.set_cons_zero, List.set_cons_succ]
          refine wpAnyH_ready (rs := [5]) (by kernel_rfl) (by simp) ?_
          refine (AllReadyH.cons (by simp only [List.getElem?_toArray, List.getElem?_cons_zero, List.getElem?_cons_succ]; rfl) (fun K hK => ?_) AllReadyH.nil)
          go_simp
          go_at_call 99
          refine (NB _ (BB24)).mono ?_
          rintro e wq28 ⟨rfl, rfl⟩
          refine hK.out _ _ (SB _ BB24) (fun hH29 => ?_)
          clear hK
          try simp only [Act.put, List.setIfInBounds_toArray, List.set_cons_zero, List.set_cons_succ]
          refine wpAnyH_take (i := 6) (v := ?v30) (by simp only [List.getElem?_toArray, List.getElem?_cons_zero, List.getElem?_cons_succ]; rfl) (by kernel_rfl) (by kernel_rfl) (by kernel_rfl) (by exact fun _ _ _ h => h) (Or.inl ⟨by rfl, ?h30⟩) (by assumption) ?r30
          case h30 => (intro w hSw; (try dsimp only at hSw); go_simp; try with_reducible rfl)
          try simp only [Act.put, List.setIfInBounds_toArray, List.set_cons_zero, List.set_cons_succ]
          refine wpAnyH_ready (rs := [8]) (by kernel_rfl) (by simp) ?_
          refine (AllReadyH.cons (by simp only [List.getElem?_toArray, List.getElem?_cons_zero, List.getElem?_cons_succ]; rfl) (fun K hK => ?_) AllReadyH.nil)
          go_simp
          have CP31 : Cov ((w1.alloc (.cells #[.int .i64 n1, .int .i64 n2] 120)).drew) w1.heap.size n1 n2 := blk_new w1 _
          have BB31 := ((Below.refl w1.heap.size w1).alloc (Nat.le_refl _) (.cells #[.int .i64 n1, .int .i64 n2] 120)).drew
          refine hK.out _ _ (SB _ BB31) (fun hH32 => ?_)
          clear hK
          try simp only [Act.put, List.setIfInBounds_toArray, List.set_cons_zero, List.set_cons_succ]
          refine wpAnyH_done (by kernel_rfl) ?_ _
          go_wp2_with fail
          go_meet
          exact ⟨_, rfl, hid CP31, hid BB31⟩
      case rest =>
        obtain ⟨cb, rfl, CC, BC⟩ := hcut
        have c0 := CC.out.c0
        have c1 := CC.out.c1
        have szc := BC.out.size
        have CR2 := hid (CR1.out.below BC.out (Nat.le_refl _))
        have CB2 := hid (CB1.out.below BC.out (Nat.le_refl _))
        have BR2 := hid (BR1.out.trans (BC.out.mono (Nat.le_trans szr B1H.out.size)))
        have b0 := CB2.out.c0
        have RZ2 := hid (RZ1.out.below BC.out (Nat.le_refl _))
        obtain ⟨⟨bx, by1⟩, hbk⟩ : ∃ x, bestK s k = x := ⟨_, rfl⟩
        rw [hbk] at CB2 b0
        simp only at b0
        have HBK := hid hbk
        have lcb : cb < wc.heap.size := lt_of_cell c0
        have lbb : rb + 1 < wc.heap.size := lt_of_cell b0
        have hbt : better s k (bx, by1) = if isCover s k = true ∧ bx < n1 then (n1, n2) else (bx, by1) := by
          unfold better
          rw [HZ.out, HN1.out, HN2.out]
        have HBT := hid hbt
        have hic : isCover s k = (mayC n1 n2 s.n && (decide (n1 % 2 = (k : Int)) && decide (coverT n1 n2 = z))) := by
          unfold isCover
          rw [HZ.out, HN1.out, HN2.out]
        have HIC := hid hic
        have tm : n1.tmod 2 = n1 % 2 := Int.tmod_eq_emod_of_nonneg hn1b.1
        have SC : ∀ W, Below wc.heap.size wc W → Below wc.heap.size wc W ∧ W.cell? ⟨cb, 0, none⟩ = some (.int .i64 n1) ∧ W.cell? ⟨cb, 1, none⟩ = some (.int .i64 n2) ∧ W.cell? ⟨rb + 1, 0, none⟩ = some (.int .i64 bx) := fun W h => ⟨h, Below.cellAt h lcb c0, Below.cellAt h lcb c1, Below.cellAt h lbb b0⟩
        have MC := fun W => mayC_any n1 n2 s.n W hn1b ⟨by omega, by omega⟩ (by omega)
        have TK := fun W => track_any n1 n2 W ⟨hn1b.1, by omega⟩ ⟨hn2b.1, by omega⟩
        obtain ⟨my, hmy⟩ : ∃ my, mayC n1 n2 s.n = my := ⟨_, rfl⟩
        rw [hmy] at MC
        have HMY := hid hmy
        have HW1 := hid (show Below wr.heap.size wr wc from B1H.out.trans (BC.out.mono B1H.out.size))
        clear hbk hbt hic hmy
        cases my with
        | false =>
          have NXT := hid (show bestK s (k + 1) = (bx, by1) by show better s k (bestK s k) = _; rw [HBK.out, HBT.out, if_neg]; rintro ⟨h, -⟩; rw [HIC.out, HMY.out] at h; cases h)
          go_wp2_with fail
          refine wp_region_held_drew (S := fun w' => Below wc.heap.size wc w' ∧ w'.cell? ⟨cb, 0, none⟩ = some (.int .i64 n1) ∧ w'.cell? ⟨cb, 1, none⟩ = some (.int .i64 n2) ∧ w'.cell? ⟨rb + 1, 0, none⟩ = some (.int .i64 bx)) (by kernel_rfl) (SC _ ((Below.refl wc.heap.size wc).drew)) (fun hHeld => ?_)
          refine wpAnyH_take (i := 0) (v := ?v33) (by simp only [List.getElem?_toArray, List.getElem?_cons_zero]; rfl) (by kernel_rfl) (by kernel_rfl) (by kernel_rfl) (by exact fun _ _ _ h => h) (Or.inl ⟨by rfl, ?h33⟩) (by assumption) ?r33
          case h33 => (intro w hSw; (try dsimp only at hSw); go_simp; try with_reducible rfl)
          try simp only [Act.put, List.setIfInBounds_toArray, List.set_cons_zero, List.set_cons_succ]
          refine wpAnyH_take (i := 1) (v := ?v34) (by simp only [List.getElem?_toArray, List.getElem?_cons_zero, List.getElem?_cons_succ]; rfl) (by kernel_rfl) (by kernel_rfl) (by kernel_rfl) (by exact fun _ _ _ h => h) (Or.inl ⟨by rfl, ?h34⟩) (by assumption) ?r34
          case h34 => (intro w hSw; (try dsimp only at hSw); go_simp; try with_reducible rfl)
          try simp only [Act.put, List.setIfInBounds_toArray, List.set_cons_zero, List.set_cons_succ]
          refine wpAnyH_ready (rs := [2]) (by kernel_rfl) (by simp) ?_
          refine (AllReadyH.cons (by simp only [List.getElem?_toArray, List.getElem?_cons_zero, List.getElem?_cons_succ]; rfl) (fun K hK => ?_) AllReadyH.nil)
          go_simp
          go_at_call 86
          refine (TR _ (HW1.out.trans (((Below.refl wc.heap.size wc).drew).mono HW1.out.size))).mono ?_
          rintro e wq35 ⟨rfl, rfl⟩
          refine hK.out _ _ (SC _ (Below.refl wc.heap.size wc).drew) (fun hH36 => ?_)
          clear hK
          try simp only [Act.put, List.setIfInBounds_toArray, List.set_cons_zero, List.set_cons_succ]
          refine wpAnyH_ready (rs := [3]) (by kernel_rfl) (by simp) ?_
          refine (AllReadyH.cons (by simp only [List.getElem?_toArray, List.getElem?_cons_zero, List.getElem?_cons_succ]; rfl) (fun K hK => ?_) AllReadyH.nil)
          go_simp
          go_at_call 89
          refine (MC _).mono ?_
          rintro e wq37 ⟨rfl, C37⟩
          have BB37 := ((Below.refl wc.heap.size wc).drew).trans (C37.mono (Below.size ((Below.refl wc.heap.size wc).drew)))
          refine hK.out _ _ (SC _ BB37) (fun hH38 => ?_)
          clear hK
          try simp only [Act.put, List.setIfInBounds_toArray, List.set_cons_zero, List.set_cons_succ]
          refine wpAnyH_take (i := 4) (v := ?v39) (by simp only [List.getElem?_toArray, List.getElem?_cons_zero, List.getElem?_cons_succ]; rfl) (by kernel_rfl) (by kernel_rfl) (by kernel_rfl) (by exact fun _ _ _ h => h) (Or.inl ⟨by rfl, ?h39⟩) (by assumption) ?r39
          case h39 => (intro w hSw; (try dsimp only at hSw); go_simp; try with_reducible rfl)
          try simp only [Act.put, List.setIfInBounds_toArray, List.set_cons_zero, List.set_cons_succ]
          refine wpAnyH_take (i := 5) (v := undef) (by simp only [List.getElem?_toArray, List.getElem?_cons_zero, List.getElem?_cons_succ]; rfl) (by kernel_rfl) (by kernel_rfl) (by kernel_rfl) (by exact fun _ _ _ h => h) (Or.inr ⟨by rfl, rfl⟩) (by assumption) ?r40
          try simp only [Act.put, List.setIfInBounds_toArray, List.set_cons_zero, List.set_cons_succ]
          refine wpAnyH_take (i := 6) (v := undef) (by simp only [List.getElem?_toArray, List.getElem?_cons_zero, List.getElem?_cons_succ]; rfl) (by kernel_rfl) (by kernel_rfl) (by kernel_rfl) (by exact fun _ _ _ h => h) (Or.inr ⟨by rfl, rfl⟩) (by assumption) ?r41
          try simp only [Act.put, List.setIfInBounds_toArray, List.set_cons_zero, List.set_cons_succ]
          refine wpAnyH_take (i := 7) (v := undef) (by simp only [List.getElem?_toArray, List.getElem?_cons_zero, List.getElem?_cons_succ]; rfl) (by kernel_rfl) (by kernel_rfl) (by kernel_rfl) (by exact fun _ _ _ h => h) (Or.inr ⟨by rfl, rfl⟩) (by assumption) ?r42
          try simp only [Act.put, List.setIfInBounds_toArray, List.set_cons_zero, List.set_cons_succ]
          refine wpAnyH_take (i := 8) (v := undef) (by simp only [List.getElem?_toArray, List.getElem?_cons_zero, List.getElem?_cons_succ]; rfl) (by kernel_rfl) (by kernel_rfl) (by kernel_rfl) (by exact fun _ _ _ h => h) (Or.inr ⟨by rfl, rfl⟩) (by assumption) ?r43
          try simp only [Act.put, List.setIfInBounds_toArray, List.set_cons_zero, List.set_cons_succ]
          refine wpAnyH_take (i := 9) (v := undef) (by simp only [List.getElem?_toArray, List.getElem?_cons_zero, List.getElem?_cons_succ]; rfl) (by kernel_rfl) (by kernel_rfl) (by kernel_rfl) (by exact fun _ _ _ h => h) (Or.inr ⟨by rfl, rfl⟩) (by assumption) ?r44
          try simp only [Act.put, List.setIfInBounds_toArray, List.set_cons_zero, List.set_cons_succ]
          refine wpAnyH_take (i := 10) (v := ?v45) (by simp only [List.getElem?_toArray, List.getElem?_cons_zero, List.getElem?_cons_succ]; rfl) (by kernel_rfl) (by kernel_rfl) (by kernel_rfl) (by exact fun _ _ _ h => h) (Or.inl ⟨by rfl, ?h45⟩) (by assumption) ?r45
          case h45 => (intro w hSw; (try dsimp only at hSw); go_simp; try with_reducible rfl)
          try simp only [Act.put, List.setIfInBounds_toArray, List.set_cons_zero, List.set_cons_succ]
          refine wpAnyH_take (i := 11) (v := ?v46) (by simp only [List.getElem?_toArray, List.getElem?_cons_zero, List.getElem?_cons_succ]; rfl) (by kernel_rfl) (by kernel_rfl) (by kernel_rfl) (by exact fun _ _ _ h => h) (Or.inl ⟨by rfl, ?h46⟩) (by assumption) ?r46
          case h46 => (intro w hSw; (try dsimp only at hSw); go_simp; try with_reducible rfl)
          try simp only [Act.put, List.setIfInBounds_toArray, List.set_cons_zero, List.set_cons_succ]
          refine wpAnyH_take (i := 12) (v := undef) (by simp only [List.getElem?_toArray, List.getElem?_cons_zero, List.getElem?_cons_succ]; rfl) (by kernel_rfl) (by kernel_rfl) (by kernel_rfl) (by exact fun _ _ _ h => h) (Or.inr ⟨by rfl, rfl⟩) (by assumption) ?r47
          try simp only [Act.put, List.setIfInBounds_toArray, List.set_cons_zero, List.set_cons_succ]
          refine wpAnyH_take (i := 13) (v := undef) (by simp only [List.getElem?_toArray, List.getElem?_cons_zero, List.getElem?_cons_succ]; rfl) (by kernel_rfl) (by kernel_rfl) (by kernel_rfl) (by exact fun _ _ _ h => h) (Or.inr ⟨by rfl, rfl⟩) (by assumption) ?r48
          try simp only [Act.put, List.setIfInBounds_toArray, List.set_cons_zero, List.set_cons_succ]
          refine wpAnyH_take (i := 14) (v := undef) (by simp only [List.getElem?_toArray, List.getElem?_cons_zero, List.getElem?_cons_succ]; rfl) (by kernel_rfl) (by kernel_rfl) (by kernel_rfl) (by exact fun _ _ _ h => h) (Or.inr ⟨by rfl, rfl⟩) (by assumption) ?r49
          try simp only [Act.put, List.setIfInBounds_toArray, List.set_cons_zero, List.set_cons_succ]
          refine wpAnyH_take (i := 15) (v := undef) (by simp only [List.getElem?_toArray, List.getElem?_cons_zero, List.getElem?_cons_succ]; rfl) (by kernel_rfl) (by kernel_rfl) (by kernel_rfl) (by exact fun _ _ _ h => h) (Or.inr ⟨by rfl, rfl⟩) (by assumption) ?r50
          try simp only [Act.put, List.setIfInBounds_toArray, List.set_cons_zero, List.set_cons_succ]
          refine wpAnyH_take (i := 16) (v := ?v51) (by simp only [List.getElem?_toArray, List.getElem?_cons_zero, List.getElem?_cons_succ]; rfl) (by kernel_rfl) (by kernel_rfl) (by kernel_rfl) (by exact fun _ _ _ h => h) (Or.inl ⟨by rfl, ?h51⟩) (by assumption) ?r51
          case h51 => (intro w hSw; (try dsimp only at hSw); go_simp; try with_reducible rfl)
          try simp only [Act.put, List.setIfInBounds_toArray, List.set_cons_zero, List.set_cons_succ]
          refine wpAnyH_take (i := 17) (v := ?v52) (by simp only [List.getElem?_toArray, List.getElem?_cons_zero, List.getElem?_cons_succ]; rfl) (by kernel_rfl) (by kernel_rfl) (by kernel_rfl) (by exact fun _ _ _ h => h) (Or.inl ⟨by rfl, ?h52⟩) (by assumption) ?r52
          case h52 => (intro w hSw; (try dsimp only at hSw); go_simp; try with_reducible rfl)
          try simp only [Act.put, List.setIfInBounds_toArray, List.set_cons_zero, List.set_cons_succ]
          refine wpAnyH_take (i := 18) (v := undef) (by simp only [List.getElem?_toArray, List.getElem?_cons_zero, List.getElem?_cons_succ]; rfl) (by kernel_rfl) (by kernel_rfl) (by kernel_rfl) (by exact fun _ _ _ h => h) (Or.inr ⟨by rfl, rfl⟩) (by assumption) ?r53
          try simp only [Act.put, List.setIfInBounds_toArray, List.set_cons_zero, List.set_cons_succ]
          refine wpAnyH_take (i := 19) (v := undef) (by simp only [List.getElem?_toArray, List.getElem?_cons_zero, List.getElem?_cons_succ]; rfl) (by kernel_rfl) (by kernel_rfl) (by kernel_rfl) (by exact fun _ _ _ h => h) (Or.inr ⟨by rfl, rfl⟩) (by assumption) ?r54
          try simp only [Act.put, List.setIfInBounds_toArray, List.set_cons_zero, List.set_cons_succ]
          refine wpAnyH_take (i := 20) (v := undef) (by simp only [List.getElem?_toArray, List.getElem?_cons_zero, List.getElem?_cons_succ]; rfl) (by kernel_rfl) (by kernel_rfl) (by kernel_rfl) (by exact fun _ _ _ h => h) (Or.inr ⟨by rfl, rfl⟩) (by assumption) ?r55
          try simp only [Act.put, List.setIfInBounds_toArray, List.set_cons_zero, List.set_cons_succ]
          refine wpAnyH_take (i := 21) (v := undef) (by simp only [List.getElem?_toArray, List.getElem?_cons_zero, List.getElem?_cons_succ]; rfl) (by kernel_rfl) (by kernel_rfl) (by kernel_rfl) (by exact fun _ _ _ h => h) (Or.inr ⟨by rfl, rfl⟩) (by assumption) ?r56
          try simp only [Act.put, List.setIfInBounds_toArray, List.set_cons_zero, List.set_cons_succ]
          refine wpAnyH_take (i := 22) (v := undef) (by simp only [List.getElem?_toArray, List.getElem?_cons_zero, List.getElem?_cons_succ]; rfl) (by kernel_rfl) (by kernel_rfl) (by kernel_rfl) (by exact fun _ _ _ h => h) (Or.inr ⟨by rfl, rfl⟩) (by assumption) ?r57
          try simp only [Act.put, List.setIfInBounds_toArray, List.set_cons_zero, List.set_cons_succ]
          refine wpAnyH_take (i := 23) (v := ?v58) (by simp only [List.getElem?_toArray, List.getElem?_cons_zero, List.getElem?_cons_succ]; rfl) (by kernel_rfl) (by kernel_rfl) (by kernel_rfl) (by exact fun _ _ _ h => h) (Or.inl ⟨by rfl, ?h58⟩) (by assumption) ?r58
          case h58 => (intro w hSw; (try dsimp only at hSw); go_simp; try with_reducible rfl)
          try simp only [Act.put, List.setIfInBounds_toArray, List.set_cons_zero, List.set_cons_succ]
          refine wpAnyH_done (by kernel_rfl) ?_ _
          have CRF := hid (CR2.out.below (BB37) (Nat.le_refl _))
          have CBF := hid (CB2.out.below (BB37) (Nat.le_refl _))
          have BRF := hid (BR2.out.trans ((BB37).mono (by have := BR2.out.size; omega)))
          go_wp2_with fail
          go_roundw
          case measure => simp [intOf]; omega
          case rel => exact ⟨k + 1, by go_num, by omega, CRF, by rw [NXT.out]; exact CBF, BRF⟩
        | true =>
          by_cases hrem : n1 % 2 = (k : Int)
          · have hrm : (n1 % 2 == (k : Int)) = true := by simpa using hrem
            obtain ⟨eq, heq⟩ : ∃ eq, decide (coverT n1 n2 = z) = eq := ⟨_, rfl⟩
            have HEQ := hid heq
            have HREM := hid hrem
            clear heq hrem
            cases eq with
            | false =>
              have NXT := hid (show bestK s (k + 1) = (bx, by1) by show better s k (bestK s k) = _; rw [HBK.out, HBT.out, if_neg]; rintro ⟨h, -⟩; rw [HIC.out, HMY.out, HEQ.out] at h; simp at h)
              go_wp2_with fail
              refine wp_region_held_drew (S := fun w' => Below wc.heap.size wc w' ∧ w'.cell? ⟨cb, 0, none⟩ = some (.int .i64 n1) ∧ w'.cell? ⟨cb, 1, none⟩ = some (.int .i64 n2) ∧ w'.cell? ⟨rb + 1, 0, none⟩ = some (.int .i64 bx)) (by kernel_rfl) (SC _ ((Below.refl wc.heap.size wc).drew)) (fun hHeld => ?_)
              refine wpAnyH_take (i := 0) (v := ?v85) (by simp only [List.getElem?_toArray, List.getElem?_cons_zero]; rfl) (by kernel_rfl) (by kernel_rfl) (by kernel_rfl) (by exact fun _ _ _ h => h) (Or.inl ⟨by rfl, ?h85⟩) (by assumption) ?r85
              case h85 => (intro w hSw; (try dsimp only at hSw); go_simp; try with_reducible rfl)
              try simp only [Act.put, List.setIfInBounds_toArray, List.set_cons_zero, List.set_cons_succ]
              refine wpAnyH_take (i := 1) (v := ?v86) (by simp only [List.getElem?_toArray, List.getElem?_cons_zero, List.getElem?_cons_succ]; rfl) (by kernel_rfl) (by kernel_rfl) (by kernel_rfl) (by exact fun _ _ _ h => h) (Or.inl ⟨by rfl, ?h86⟩) (by assumption) ?r86
              case h86 => (intro w hSw; (try dsimp only at hSw); go_simp; try with_reducible rfl)
              try simp only [Act.put, List.setIfInBounds_toArray, List.set_cons_zero, List.set_cons_succ]
              refine wpAnyH_ready (rs := [2]) (by kernel_rfl) (by simp) ?_
              refine (AllReadyH.cons (by simp only [List.getElem?_toArray, List.getElem?_cons_zero, List.getElem?_cons_succ]; rfl) (fun K hK => ?_) AllReadyH.nil)
              go_simp
              go_at_call 86
              refine (TR _ (HW1.out.trans (((Below.refl wc.heap.size wc).drew).mono HW1.out.size))).mono ?_
              rintro e wq87 ⟨rfl, rfl⟩
              refine hK.out _ _ (SC _ (Below.refl wc.heap.size wc).drew) (fun hH88 => ?_)
              clear hK
              try simp only [Act.put, List.setIfInBounds_toArray, List.set_cons_zero, List.set_cons_succ]
              refine wpAnyH_ready (rs := [3]) (by kernel_rfl) (by simp) ?_
              refine (AllReadyH.cons (by simp only [List.getElem?_toArray, List.getElem?_cons_zero, List.getElem?_cons_succ]; rfl) (fun K hK => ?_) AllReadyH.nil)
              go_simp
              go_at_call 89
              refine (MC _).mono ?_
              rintro e wq89 ⟨rfl, C89⟩
              have BB89 := ((Below.refl wc.heap.size wc).drew).trans (C89.mono (Below.size ((Below.refl wc.heap.size wc).drew)))
              refine hK.out _ _ (SC _ BB89) (fun hH90 => ?_)
              clear hK
              try simp only [Act.put, List.setIfInBounds_toArray, List.set_cons_zero, List.set_cons_succ]
              refine wpAnyH_take (i := 4) (v := ?v91) (by simp only [List.getElem?_toArray, List.getElem?_cons_zero, List.getElem?_cons_succ]; rfl) (by kernel_rfl) (by kernel_rfl) (by kernel_rfl) (by exact fun _ _ _ h => h) (Or.inl ⟨by rfl, ?h91⟩) (by assumption) ?r91
              case h91 => (intro w hSw; (try dsimp only at hSw); go_simp; try with_reducible rfl)
              try simp only [Act.put, List.setIfInBounds_toArray, List.set_cons_zero, List.set_cons_succ]
              refine wpAnyH_take (i := 5) (v := ?v92) (by simp only [List.getElem?_toArray, List.getElem?_cons_zero, List.getElem?_cons_succ]; rfl) (by kernel_rfl) (by kernel_rfl) (by kernel_rfl) (by exact fun _ _ _ h => h) (Or.inl ⟨by rfl, ?h92⟩) (by assumption) ?r92
              case h92 => (intro w hSw; (try dsimp only at hSw); go_simp; try with_reducible rfl)
              try simp only [Act.put, List.setIfInBounds_toArray, List.set_cons_zero, List.set_cons_succ]
              refine wpAnyH_take (i := 6) (v := ?v93) (by simp only [List.getElem?_toArray, List.getElem?_cons_zero, List.getElem?_cons_succ]; rfl) (by kernel_rfl) (by kernel_rfl) (by kernel_rfl) (by exact fun _ _ _ h => h) (Or.inl ⟨by rfl, ?h93⟩) (by assumption) ?r93
              case h93 => (intro w hSw; (try dsimp only at hSw); go_simp; try with_reducible rfl)
              try simp only [Act.put, List.setIfInBounds_toArray, List.set_cons_zero, List.set_cons_succ]
              refine wpAnyH_take (i := 7) (v := ?v94) (by simp only [List.getElem?_toArray, List.getElem?_cons_zero, List.getElem?_cons_succ]; rfl) (by kernel_rfl) (by kernel_rfl) (by kernel_rfl) (by exact fun _ _ _ h => h) (Or.inl ⟨by rfl, ?h94⟩) (by assumption) ?r94
              case h94 => (intro w hSw; (try dsimp only at hSw); go_simp; try with_reducible rfl)
              try simp only [Act.put, List.setIfInBounds_toArray, List.set_cons_zero, List.set_cons_succ]
              refine wpAnyH_take (i := 8) (v := ?v95) (by simp only [List.getElem?_toArray, List.getElem?_cons_zero, List.getElem?_cons_succ]; rfl) (by kernel_rfl) (by kernel_rfl) (by kernel_rfl) (by exact fun _ _ _ h => h) (Or.inl ⟨by rfl, ?h95⟩) (by assumption) ?r95
              case h95 => (intro w hSw; (try dsimp only at hSw); go_simp; try with_reducible rfl)
              try simp only [Act.put, List.setIfInBounds_toArray, List.set_cons_zero, List.set_cons_succ]
              refine wpAnyH_take (i := 9) (v := ?v96) (by simp only [List.getElem?_toArray, List.getElem?_cons_zero, List.getElem?_cons_succ]; rfl) (by kernel_rfl) (by kernel_rfl) (by kernel_rfl) (by exact fun _ _ _ h => h) (Or.inl ⟨by rfl, ?h96⟩) (by assumption) ?r96
              case h96 => (intro w hSw; (try dsimp only at hSw); go_simp; try with_reducible rfl)
              try simp only [Act.put, List.setIfInBounds_toArray, List.set_cons_zero, List.set_cons_succ]
              refine wpAnyH_take (i := 10) (v := ?v97) (by simp only [List.getElem?_toArray, List.getElem?_cons_zero, List.getElem?_cons_succ]; rfl) (by kernel_rfl) (by kernel_rfl) (by kernel_rfl) (by exact fun _ _ _ h => h) (Or.inl ⟨by rfl, ?h97⟩) (by assumption) ?r97
              case h97 => (intro w hSw; (try dsimp only at hSw); go_simp; try with_reducible rfl)
              try simp only [Act.put, List.setIfInBounds_toArray, List.set_cons_zero, List.set_cons_succ]
              refine wpAnyH_take (i := 11) (v := ?v98) (by simp only [List.getElem?_toArray, List.getElem?_cons_zero, List.getElem?_cons_succ]; rfl) (by kernel_rfl) (by kernel_rfl) (by kernel_rfl) (by exact fun _ _ _ h => h) (Or.inl ⟨by rfl, ?h98⟩) (by assumption) ?r98
              case h98 => (intro w hSw; (try dsimp only at hSw); go_simp; try with_reducible rfl)
              try simp only [Act.put, List.setIfInBounds_toArray, List.set_cons_zero, List.set_cons_succ]
              refine wpAnyH_take (i := 12) (v := ?v99) (by simp only [List.getElem?_toArray, List.getElem?_cons_zero, List.getElem?_cons_succ]; rfl) (by kernel_rfl) (by kernel_rfl) (by kernel_rfl) (by exact fun _ _ _ h => h) (Or.inl ⟨by rfl, ?h99⟩) (by assumption) ?r99
              case h99 => (intro w hSw; (try dsimp only at hSw); go_simp; try with_reducible rfl)
              try simp only [Act.put, List.setIfInBounds_toArray, List.set_cons_zero, List.set_cons_succ]
              refine wpAnyH_take (i := 14) (v := ?v100) (by simp only [List.getElem?_toArray, List.getElem?_cons_zero, List.getElem?_cons_succ]; rfl) (by kernel_rfl) (by kernel_rfl) (by kernel_rfl) (by exact fun _ _ _ h => h) (Or.inl ⟨by rfl, ?h100⟩) (by assumption) ?r100
              case h100 => (intro w hSw; (try dsimp only at hSw); go_simp; try with_reducible rfl)
              try simp only [Act.put, List.setIfInBounds_toArray, List.set_cons_zero, List.set_cons_succ]
              refine wpAnyH_ready (rs := [13]) (by kernel_rfl) (by simp) ?_
              refine (AllReadyH.cons (by simp only [List.getElem?_toArray, List.getElem?_cons_zero, List.getElem?_cons_succ]; rfl) (fun K hK => ?_) AllReadyH.nil)
              go_simp
              go_at_call 100
              refine (TK _).mono ?_
              rintro e wq101 ⟨v101, rfl, o101, C101⟩
              obtain ⟨b101, c101, e8101, r101, -, -, -⟩ := own96 o101
              subst e8101
              have BB101 := (BB89).trans (C101.mono (Below.size (BB89)))
              refine hK.out _ _ (SC _ BB101) (fun hH102 => ?_)
              clear hK
              try simp only [Act.put, List.setIfInBounds_toArray, List.set_cons_zero, List.set_cons_succ]
              refine wpAnyH_ready (rs := [15]) (by kernel_rfl) (by simp) ?_
              refine (AllReadyH.cons (by simp only [List.getElem?_toArray, List.getElem?_cons_zero, List.getElem?_cons_succ]; rfl) (fun K hK => ?_) AllReadyH.nil)
              have EQ103 := equalB_any (some b101) (some ⟨g, 0, none⟩) 96 96 c101 c (coverT n1 n2) z _ (r101) (RZ2.out.below (BB101) (Nat.le_refl _)) (coverT_length _ _) HZ96.out (by decide) (coverT_bytes _ _) HZB.out
              rw [HEQ.out] at EQ103
              go_simp
              go_at_call 40
              refine EQ103.mono ?_
              rintro e wq103 ⟨rfl, q103, rfl⟩
              clear EQ103
              have BB103 := Below.drewN (BB101) q103
              refine hK.out _ _ (SC _ BB103) (fun hH104 => ?_)
              clear hK
              try simp only [Act.put, List.setIfInBounds_toArray, List.set_cons_zero, List.set_cons_succ]
              refine wpAnyH_take (i := 16) (v := ?v105) (by simp only [List.getElem?_toArray, List.getElem?_cons_zero, List.getElem?_cons_succ]; rfl) (by kernel_rfl) (by kernel_rfl) (by kernel_rfl) (by exact fun _ _ _ h => h) (Or.inl ⟨by rfl, ?h105⟩) (by assumption) ?r105
              case h105 => (intro w hSw; (try dsimp only at hSw); go_simp; try with_reducible rfl)
              try simp only [Act.put, List.setIfInBounds_toArray, List.set_cons_zero, List.set_cons_succ]
              refine wpAnyH_take (i := 17) (v := ?v106) (by simp only [List.getElem?_toArray, List.getElem?_cons_zero, List.getElem?_cons_succ]; rfl) (by kernel_rfl) (by kernel_rfl) (by kernel_rfl) (by exact fun _ _ _ h => h) (Or.inl ⟨by rfl, ?h106⟩) (by assumption) ?r106
              case h106 => (intro w hSw; (try dsimp only at hSw); go_simp; try with_reducible rfl)
              try simp only [Act.put, List.setIfInBounds_toArray, List.set_cons_zero, List.set_cons_succ]
              refine wpAnyH_take (i := 18) (v := undef) (by simp only [List.getElem?_toArray, List.getElem?_cons_zero, List.getElem?_cons_succ]; rfl) (by kernel_rfl) (by kernel_rfl) (by kernel_rfl) (by exact fun _ _ _ h => h) (Or.inr ⟨by rfl, rfl⟩) (by assumption) ?r107
              try simp only [Act.put, List.setIfInBounds_toArray, List.set_cons_zero, List.set_cons_succ]
              refine wpAnyH_take (i := 19) (v := undef) (by simp only [List.getElem?_toArray, List.getElem?_cons_zero, List.getElem?_cons_succ]; rfl) (by kernel_rfl) (by kernel_rfl) (by kernel_rfl) (by exact fun _ _ _ h => h) (Or.inr ⟨by rfl, rfl⟩) (by assumption) ?r108
              try simp only [Act.put, List.setIfInBounds_toArray, List.set_cons_zero, List.set_cons_succ]
              refine wpAnyH_take (i := 20) (v := undef) (by simp only [List.getElem?_toArray, List.getElem?_cons_zero, List.getElem?_cons_succ]; rfl) (by kernel_rfl) (by kernel_rfl) (by kernel_rfl) (by exact fun _ _ _ h => h) (Or.inr ⟨by rfl, rfl⟩) (by assumption) ?r109
              try simp only [Act.put, List.setIfInBounds_toArray, List.set_cons_zero, List.set_cons_succ]
              refine wpAnyH_take (i := 21) (v := undef) (by simp only [List.getElem?_toArray, List.getElem?_cons_zero, List.getElem?_cons_succ]; rfl) (by kernel_rfl) (by kernel_rfl) (by kernel_rfl) (by exact fun _ _ _ h => h) (Or.inr ⟨by rfl, rfl⟩) (by assumption) ?r110
              try simp only [Act.put, List.setIfInBounds_toArray, List.set_cons_zero, List.set_cons_succ]
              refine wpAnyH_take (i := 22) (v := undef) (by simp only [List.getElem?_toArray, List.getElem?_cons_zero, List.getElem?_cons_succ]; rfl) (by kernel_rfl) (by kernel_rfl) (by kernel_rfl) (by exact fun _ _ _ h => h) (Or.inr ⟨by rfl, rfl⟩) (by assumption) ?r111
              try simp only [Act.put, List.setIfInBounds_toArray, List.set_cons_zero, List.set_cons_succ]
              refine wpAnyH_take (i := 23) (v := ?v112) (by simp only [List.getElem?_toArray, List.getElem?_cons_zero, List.getElem?_cons_succ]; rfl) (by kernel_rfl) (by kernel_rfl) (by kernel_rfl) (by exact fun _ _ _ h => h) (Or.inl ⟨by rfl, ?h112⟩) (by assumption) ?r112
              case h112 => (intro w hSw; (try dsimp only at hSw); go_simp; try with_reducible rfl)
              try simp only [Act.put, List.setIfInBounds_toArray, List.set_cons_zero, List.set_cons_succ]
              refine wpAnyH_done (by kernel_rfl) ?_ _
              have CRF := hid (CR2.out.below (BB103) (Nat.le_refl _))
              have CBF := hid (CB2.out.below (BB103) (Nat.le_refl _))
              have BRF := hid (BR2.out.trans ((BB103).mono (by have := BR2.out.size; omega)))
              go_wp2_with fail
              go_roundw
              case measure => simp [intOf]; omega
              case rel => exact ⟨k + 1, by go_num, by omega, CRF, by rw [NXT.out]; exact CBF, BRF⟩
            | true =>
              by_cases hgt : bx < n1
              · have NXT := hid (show bestK s (k + 1) = (n1, n2) by show better s k (bestK s k) = _; rw [HBK.out, HBT.out, if_pos]; exact ⟨by rw [HIC.out, HMY.out, HEQ.out, decide_eq_true HREM.out]; rfl, hgt⟩)
                go_wp2_with fail
                refine wp_region_held_drew (S := fun w' => Below wc.heap.size wc w' ∧ w'.cell? ⟨cb, 0, none⟩ = some (.int .i64 n1) ∧ w'.cell? ⟨cb, 1, none⟩ = some (.int .i64 n2) ∧ w'.cell? ⟨rb + 1, 0, none⟩ = some (.int .i64 bx)) (by kernel_rfl) (SC _ ((Below.refl wc.heap.size wc).drew)) (fun hHeld => ?_)
                refine wpAnyH_take (i := 0) (v := ?v113) (by simp only [List.getElem?_toArray, List.getElem?_cons_zero]; rfl) (by kernel_rfl) (by kernel_rfl) (by kernel_rfl) (by exact fun _ _ _ h => h) (Or.inl ⟨by rfl, ?h113⟩) (by assumption) ?r113
                case h113 => (intro w hSw; (try dsimp only at hSw); go_simp; try with_reducible rfl)
                try simp only [Act.put, List.setIfInBounds_toArray, List.set_cons_zero, List.set_cons_succ]
                refine wpAnyH_take (i := 1) (v := ?v114) (by simp only [List.getElem?_toArray, List.getElem?_cons_zero, List.getElem?_cons_succ]; rfl) (by kernel_rfl) (by kernel_rfl) (by kernel_rfl) (by exact fun _ _ _ h => h) (Or.inl ⟨by rfl, ?h114⟩) (by assumption) ?r114
                case h114 => (intro w hSw; (try dsimp only at hSw); go_simp; try with_reducible rfl)
                try simp only [Act.put, List.setIfInBounds_toArray, List.set_cons_zero, List.set_cons_succ]
                refine wpAnyH_ready (rs := [2]) (by kernel_rfl) (by simp) ?_
                refine (AllReadyH.cons (by simp only [List.getElem?_toArray, List.getElem?_cons_zero, List.getElem?_cons_succ]; rfl) (fun K hK => ?_) AllReadyH.nil)
                go_simp
                go_at_call 86
                refine (TR _ (HW1.out.trans (((Below.refl wc.heap.size wc).drew).mono HW1.out.size))).mono ?_
                rintro e wq115 ⟨rfl, rfl⟩
                refine hK.out _ _ (SC _ (Below.refl wc.heap.size wc).drew) (fun hH116 => ?_)
                clear hK
                try simp only [Act.put, List.setIfInBounds_toArray, List.set_cons_zero, List.set_cons_succ]
                refine wpAnyH_ready (rs := [3]) (by kernel_rfl) (by simp) ?_
                refine (AllReadyH.cons (by simp only [List.getElem?_toArray, List.getElem?_cons_zero, List.getElem?_cons_succ]; rfl) (fun K hK => ?_) AllReadyH.nil)
                go_simp
                go_at_call 89
                refine (MC _).mono ?_
                rintro e wq117 ⟨rfl, C117⟩
                have BB117 := ((Below.refl wc.heap.size wc).drew).trans (C117.mono (Below.size ((Below.refl wc.heap.size wc).drew)))
                refine hK.out _ _ (SC _ BB117) (fun hH118 => ?_)
                clear hK
                try simp only [Act.put, List.setIfInBounds_toArray, List.set_cons_zero, List.set_cons_succ]
                refine wpAnyH_take (i := 4) (v := ?v119) (by simp only [List.getElem?_toArray, List.getElem?_cons_zero, List.getElem?_cons_succ]; rfl) (by kernel_rfl) (by kernel_rfl) (by kernel_rfl) (by exact fun _ _ _ h => h) (Or.inl ⟨by rfl, ?h119⟩) (by assumption) ?r119
                case h119 => (intro w hSw; (try dsimp only at hSw); go_simp; try with_reducible rfl)
                try simp only [Act.put, List.setIfInBounds_toArray, List.set_cons_zero, List.set_cons_succ]
                refine wpAnyH_take (i := 5) (v := ?v120) (by simp only [List.getElem?_toArray, List.getElem?_cons_zero, List.getElem?_cons_succ]; rfl) (by kernel_rfl) (by kernel_rfl) (by kernel_rfl) (by exact fun _ _ _ h => h) (Or.inl ⟨by rfl, ?h120⟩) (by assumption) ?r120
                case h120 => (intro w hSw; (try dsimp only at hSw); go_simp; try with_reducible rfl)
                try simp only [Act.put, List.setIfInBounds_toArray, List.set_cons_zero, List.set_cons_succ]
                refine wpAnyH_take (i := 6) (v := ?v121) (by simp only [List.getElem?_toArray, List.getElem?_cons_zero, List.getElem?_cons_succ]; rfl) (by kernel_rfl) (by kernel_rfl) (by kernel_rfl) (by exact fun _ _ _ h => h) (Or.inl ⟨by rfl, ?h121⟩) (by assumption) ?r121
                case h121 => (intro w hSw; (try dsimp only at hSw); go_simp; try with_reducible rfl)
                try simp only [Act.put, List.setIfInBounds_toArray, List.set_cons_zero, List.set_cons_succ]
                refine wpAnyH_take (i := 7) (v := ?v122) (by simp only [List.getElem?_toArray, List.getElem?_cons_zero, List.getElem?_cons_succ]; rfl) (by kernel_rfl) (by kernel_rfl) (by kernel_rfl) (by exact fun _ _ _ h => h) (Or.inl ⟨by rfl, ?h122⟩) (by assumption) ?r122
                case h122 => (intro w hSw; (try dsimp only at hSw); go_simp; try with_reducible rfl)
                try simp only [Act.put, List.setIfInBounds_toArray, List.set_cons_zero, List.set_cons_succ]
                refine wpAnyH_take (i := 8) (v := ?v123) (by simp only [List.getElem?_toArray, List.getElem?_cons_zero, List.getElem?_cons_succ]; rfl) (by kernel_rfl) (by kernel_rfl) (by kernel_rfl) (by exact fun _ _ _ h => h) (Or.inl ⟨by rfl, ?h123⟩) (by assumption) ?r123
                case h123 => (intro w hSw; (try dsimp only at hSw); go_simp; try with_reducible rfl)
                try simp only [Act.put, List.setIfInBounds_toArray, List.set_cons_zero, List.set_cons_succ]
                refine wpAnyH_take (i := 9) (v := ?v124) (by simp only [List.getElem?_toArray, List.getElem?_cons_zero, List.getElem?_cons_succ]; rfl) (by kernel_rfl) (by kernel_rfl) (by kernel_rfl) (by exact fun _ _ _ h => h) (Or.inl ⟨by rfl, ?h124⟩) (by assumption) ?r124
                case h124 => (intro w hSw; (try dsimp only at hSw); go_simp; try with_reducible rfl)
                try simp only [Act.put, List.setIfInBounds_toArray, List.set_cons_zero, List.set_cons_succ]
                refine wpAnyH_take (i := 10) (v := ?v125) (by simp only [List.getElem?_toArray, List.getElem?_cons_zero, List.getElem?_cons_succ]; rfl) (by kernel_rfl) (by kernel_rfl) (by kernel_rfl) (by exact fun _ _ _ h => h) (Or.inl ⟨by rfl, ?h125⟩) (by assumption) ?r125
                case h125 => (intro w hSw; (try dsimp only at hSw); go_simp; try with_reducible rfl)
                try simp only [Act.put, List.setIfInBounds_toArray, List.set_cons_zero, List.set_cons_succ]
                refine wpAnyH_take (i := 11) (v := ?v126) (by simp only [List.getElem?_toArray, List.getElem?_cons_zero, List.getElem?_cons_succ]; rfl) (by kernel_rfl) (by kernel_rfl) (by kernel_rfl) (by exact fun _ _ _ h => h) (Or.inl ⟨by rfl, ?h126⟩) (by assumption) ?r126
                case h126 => (intro w hSw; (try dsimp only at hSw); go_simp; try with_reducible rfl)
                try simp only [Act.put, List.setIfInBounds_toArray, List.set_cons_zero, List.set_cons_succ]
                refine wpAnyH_take (i := 12) (v := ?v127) (by simp only [List.getElem?_toArray, List.getElem?_cons_zero, List.getElem?_cons_succ]; rfl) (by kernel_rfl) (by kernel_rfl) (by kernel_rfl) (by exact fun _ _ _ h => h) (Or.inl ⟨by rfl, ?h127⟩) (by assumption) ?r127
                case h127 => (intro w hSw; (try dsimp only at hSw); go_simp; try with_reducible rfl)
                try simp only [Act.put, List.setIfInBounds_toArray, List.set_cons_zero, List.set_cons_succ]
                refine wpAnyH_take (i := 14) (v := ?v128) (by simp only [List.getElem?_toArray, List.getElem?_cons_zero, List.getElem?_cons_succ]; rfl) (by kernel_rfl) (by kernel_rfl) (by kernel_rfl) (by exact fun _ _ _ h => h) (Or.inl ⟨by rfl, ?h128⟩) (by assumption) ?r128
                case h128 => (intro w hSw; (try dsimp only at hSw); go_simp; try with_reducible rfl)
                try simp only [Act.put, List.setIfInBounds_toArray, List.set_cons_zero, List.set_cons_succ]
                refine wpAnyH_ready (rs := [13]) (by kernel_rfl) (by simp) ?_
                refine (AllReadyH.cons (by simp only [List.getElem?_toArray, List.getElem?_cons_zero, List.getElem?_cons_succ]; rfl) (fun K hK => ?_) AllReadyH.nil)
                go_simp
                go_at_call 100
                refine (TK _).mono ?_
                rintro e wq129 ⟨v129, rfl, o129, C129⟩
                obtain ⟨b129, c129, e8129, r129, -, -, -⟩ := own96 o129
                subst e8129
                have BB129 := (BB117).trans (C129.mono (Below.size (BB117)))
                refine hK.out _ _ (SC _ BB129) (fun hH130 => ?_)
                clear hK
                try simp only [Act.put, List.setIfInBounds_toArray, List.set_cons_zero, List.set_cons_succ]
                refine wpAnyH_ready (rs := [15]) (by kernel_rfl) (by simp) ?_
                refine (AllReadyH.cons (by simp only [List.getElem?_toArray, List.getElem?_cons_zero, List.getElem?_cons_succ]; rfl) (fun K hK => ?_) AllReadyH.nil)
                have EQ131 := equalB_any (some b129) (some ⟨g, 0, none⟩) 96 96 c129 c (coverT n1 n2) z _ (r129) (RZ2.out.below (BB129) (Nat.le_refl _)) (coverT_length _ _) HZ96.out (by decide) (coverT_bytes _ _) HZB.out
                rw [HEQ.out] at EQ131
                go_simp
                go_at_call 40
                refine EQ131.mono ?_
                rintro e wq131 ⟨rfl, q131, rfl⟩
                clear EQ131
                have BB131 := Below.drewN (BB129) q131
                refine hK.out _ _ (SC _ BB131) (fun hH132 => ?_)
                clear hK
                try simp only [Act.put, List.setIfInBounds_toArray, List.set_cons_zero, List.set_cons_succ]
                refine wpAnyH_take (i := 16) (v := ?v133) (by simp only [List.getElem?_toArray, List.getElem?_cons_zero, List.getElem?_cons_succ]; rfl) (by kernel_rfl) (by kernel_rfl) (by kernel_rfl) (by exact fun _ _ _ h => h) (Or.inl ⟨by rfl, ?h133⟩) (by assumption) ?r133
                case h133 => (intro w hSw; (try dsimp only at hSw); go_simp; try with_reducible rfl)
                try simp only [Act.put, List.setIfInBounds_toArray, List.set_cons_zero, List.set_cons_succ]
                refine wpAnyH_take (i := 17) (v := ?v134) (by simp only [List.getElem?_toArray, List.getElem?_cons_zero, List.getElem?_cons_succ]; rfl) (by kernel_rfl) (by kernel_rfl) (by kernel_rfl) (by exact fun _ _ _ h => h) (Or.inl ⟨by rfl, ?h134⟩) (by assumption) ?r134
                case h134 => (intro w hSw; (try dsimp only at hSw); go_simp; try with_reducible rfl)
                try simp only [Act.put, List.setIfInBounds_toArray, List.set_cons_zero, List.set_cons_succ]
                refine wpAnyH_take (i := 18) (v := ?v135) (by simp only [List.getElem?_toArray, List.getElem?_cons_zero, List.getElem?_cons_succ]; rfl) (by kernel_rfl) (by kernel_rfl) (by kernel_rfl) (by exact fun _ _ _ h => h) (Or.inl ⟨by rfl, ?h135⟩) (by assumption) ?r135
                case h135 => (intro w hSw; (try dsimp only at hSw); go_simp; try with_reducible rfl)
                try simp only [Act.put, List.setIfInBounds_toArray, List.set_cons_zero, List.set_cons_succ]
                refine wpAnyH_take (i := 19) (v := ?v136) (by simp only [List.getElem?_toArray, List.getElem?_cons_zero, List.getElem?_cons_succ]; rfl) (by kernel_rfl) (by kernel_rfl) (by kernel_rfl) (by exact fun _ _ _ h => h) (Or.inl ⟨by rfl, ?h136⟩) (by assumption) ?r136
                case h136 => (intro w hSw; (try dsimp only at hSw); go_simp; try with_reducible rfl)
                try simp only [Act.put, List.setIfInBounds_toArray, List.set_cons_zero, List.set_cons_succ]
                refine wpAnyH_take (i := 20) (v := ?v137) (by simp only [List.getElem?_toArray, List.getElem?_cons_zero, List.getElem?_cons_succ]; rfl) (by kernel_rfl) (by kernel_rfl) (by kernel_rfl) (by exact fun _ _ _ h => h) (Or.inl ⟨by rfl, ?h137⟩) (by assumption) ?r137
                case h137 => (intro w hSw; (try dsimp only at hSw); go_simp; try with_reducible rfl)
                try simp only [Act.put, List.setIfInBounds_toArray, List.set_cons_zero, List.set_cons_succ]
                refine wpAnyH_take (i := 21) (v := ?v138) (by simp only [List.getElem?_toArray, List.getElem?_cons_zero, List.getElem?_cons_succ]; rfl) (by kernel_rfl) (by kernel_rfl) (by kernel_rfl) (by exact fun _ _ _ h => h) (Or.inl ⟨by rfl, ?h138⟩) (by assumption) ?r138
                case h138 => (intro w hSw; (try dsimp only at hSw); go_simp; try with_reducible rfl)
                try simp only [Act.put, List.setIfInBounds_toArray, List.set_cons_zero, List.set_cons_succ]
                refine wpAnyH_take (i := 22) (v := ?v139) (by simp only [List.getElem?_toArray, List.getElem?_cons_zero, List.getElem?_cons_succ]; rfl) (by kernel_rfl) (by kernel_rfl) (by kernel_rfl) (by exact fun _ _ _ h => h) (Or.inl ⟨by rfl, ?h139⟩) (by assumption) ?r139
                case h139 => (intro w hSw; (try dsimp only at hSw); go_simp; try with_reducible rfl)
                try simp only [Act.put, List.setIfInBounds_toArray, List.set_cons_zero, List.set_cons_succ]
                refine wpAnyH_take (i := 23) (v := ?v140) (by simp only [List.getElem?_toArray, List.getElem?_cons_zero, List.getElem?_cons_succ]; rfl) (by kernel_rfl) (by kernel_rfl) (by kernel_rfl) (by exact fun _ _ _ h => h) (Or.inl ⟨by rfl, ?h140⟩) (by assumption) ?r140
                case h140 => (intro w hSw; (try dsimp only at hSw); go_simp; try with_reducible rfl)
                try simp only [Act.put, List.setIfInBounds_toArray, List.set_cons_zero, List.set_cons_succ]
                refine wpAnyH_done (by kernel_rfl) ?_ _
                have CRF := CR2.out.below (BB131) (Nat.le_refl _)
                have CBF := CB2.out.below (BB131) (Nat.le_refl _)
                have CCF := CC.out.below (BB131) (Nat.le_refl _)
                have BRF := hid (BR2.out.trans ((BB131).mono (by have := BR2.out.size; omega)))
                have k0 := CCF.c0
                have k1 := CCF.c1
                have f0 := CBF.c0
                have f1 := CBF.c1
                have ff := fun o => blk_free (o := o) CBF
                have CRG := hid ((CRF.other (c := rb + 1) (o := 0) (v := .int .i64 n1) (by omega)).other (c := rb + 1) (o := 1) (v := .int .i64 n2) (by omega))
                have CBG := hid (CBF.put n1 n2)
                have BRG := hid (below_set (below_set BRF.out (b := rb + 1) (o := 0) (v := .int .i64 n1) (by omega)) (b := rb + 1) (o := 1) (v := .int .i64 n2) (by omega))
                clear CRF CBF CCF
                go_wp2_with fail
                go_roundw
                case measure => simp [intOf]; omega
                case rel => exact ⟨k + 1, by go_num, by omega, CRG, by rw [NXT.out]; exact CBG, BRG⟩
              · have NXT := hid (show bestK s (k + 1) = (bx, by1) by show better s k (bestK s k) = _; rw [HBK.out, HBT.out, if_neg]; rintro ⟨-, h⟩; exact hgt h)
                have hgt2 : n1 ≤ bx := by omega
                go_wp2_with fail
                refine wp_region_held_drew (S := fun w' => Below wc.heap.size wc w' ∧ w'.cell? ⟨cb, 0, none⟩ = some (.int .i64 n1) ∧ w'.cell? ⟨cb, 1, none⟩ = some (.int .i64 n2) ∧ w'.cell? ⟨rb + 1, 0, none⟩ = some (.int .i64 bx)) (by kernel_rfl) (SC _ ((Below.refl wc.heap.size wc).drew)) (fun hHeld => ?_)
                refine wpAnyH_take (i := 0) (v := ?v141) (by simp only [List.getElem?_toArray, List.getElem?_cons_zero]; rfl) (by kernel_rfl) (by kernel_rfl) (by kernel_rfl) (by exact fun _ _ _ h => h) (Or.inl ⟨by rfl, ?h141⟩) (by assumption) ?r141
                case h141 => (intro w hSw; (try dsimp only at hSw); go_simp; try with_reducible rfl)
                try simp only [Act.put, List.setIfInBounds_toArray, List.set_cons_zero, List.set_cons_succ]
                refine wpAnyH_take (i := 1) (v := ?v142) (by simp only [List.getElem?_toArray, List.getElem?_cons_zero, List.getElem?_cons_succ]; rfl) (by kernel_rfl) (by kernel_rfl) (by kernel_rfl) (by exact fun _ _ _ h => h) (Or.inl ⟨by rfl, ?h142⟩) (by assumption) ?r142
                case h142 => (intro w hSw; (try dsimp only at hSw); go_simp; try with_reducible rfl)
                try simp only [Act.put, List.setIfInBounds_toArray, List.set_cons_zero, List.set_cons_succ]
                refine wpAnyH_ready (rs := [2]) (by kernel_rfl) (by simp) ?_
                refine (AllReadyH.cons (by simp only [List.getElem?_toArray, List.getElem?_cons_zero, List.getElem?_cons_succ]; rfl) (fun K hK => ?_) AllReadyH.nil)
                go_simp
                go_at_call 86
                refine (TR _ (HW1.out.trans (((Below.refl wc.heap.size wc).drew).mono HW1.out.size))).mono ?_
                rintro e wq143 ⟨rfl, rfl⟩
                refine hK.out _ _ (SC _ (Below.refl wc.heap.size wc).drew) (fun hH144 => ?_)
                clear hK
                try simp only [Act.put, List.setIfInBounds_toArray, List.set_cons_zero, List.set_cons_succ]
                refine wpAnyH_ready (rs := [3]) (by kernel_rfl) (by simp) ?_
                refine (AllReadyH.cons (by simp only [List.getElem?_toArray, List.getElem?_cons_zero, List.getElem?_cons_succ]; rfl) (fun K hK => ?_) AllReadyH.nil)
                go_simp
                go_at_call 89
                refine (MC _).mono ?_
                rintro e wq145 ⟨rfl, C145⟩
                have BB145 := ((Below.refl wc.heap.size wc).drew).trans (C145.mono (Below.size ((Below.refl wc.heap.size wc).drew)))
                refine hK.out _ _ (SC _ BB145) (fun hH146 => ?_)
                clear hK
                try simp only [Act.put, List.setIfInBounds_toArray, List.set_cons_zero, List.set_cons_succ]
                refine wpAnyH_take (i := 4) (v := ?v147) (by simp only [List.getElem?_toArray, List.getElem?_cons_zero, List.getElem?_cons_succ]; rfl) (by kernel_rfl) (by kernel_rfl) (by kernel_rfl) (by exact fun _ _ _ h => h) (Or.inl ⟨by rfl, ?h147⟩) (by assumption) ?r147
                case h147 => (intro w hSw; (try dsimp only at hSw); go_simp; try with_reducible rfl)
                try simp only [Act.put, List.setIfInBounds_toArray, List.set_cons_zero, List.set_cons_succ]
                refine wpAnyH_take (i := 5) (v := ?v148) (by simp only [List.getElem?_toArray, List.getElem?_cons_zero, List.getElem?_cons_succ]; rfl) (by kernel_rfl) (by kernel_rfl) (by kernel_rfl) (by exact fun _ _ _ h => h) (Or.inl ⟨by rfl, ?h148⟩) (by assumption) ?r148
                case h148 => (intro w hSw; (try dsimp only at hSw); go_simp; try with_reducible rfl)
                try simp only [Act.put, List.setIfInBounds_toArray, List.set_cons_zero, List.set_cons_succ]
                refine wpAnyH_take (i := 6) (v := ?v149) (by simp only [List.getElem?_toArray, List.getElem?_cons_zero, List.getElem?_cons_succ]; rfl) (by kernel_rfl) (by kernel_rfl) (by kernel_rfl) (by exact fun _ _ _ h => h) (Or.inl ⟨by rfl, ?h149⟩) (by assumption) ?r149
                case h149 => (intro w hSw; (try dsimp only at hSw); go_simp; try with_reducible rfl)
                try simp only [Act.put, List.setIfInBounds_toArray, List.set_cons_zero, List.set_cons_succ]
                refine wpAnyH_take (i := 7) (v := ?v150) (by simp only [List.getElem?_toArray, List.getElem?_cons_zero, List.getElem?_cons_succ]; rfl) (by kernel_rfl) (by kernel_rfl) (by kernel_rfl) (by exact fun _ _ _ h => h) (Or.inl ⟨by rfl, ?h150⟩) (by assumption) ?r150
                case h150 => (intro w hSw; (try dsimp only at hSw); go_simp; try with_reducible rfl)
                try simp only [Act.put, List.setIfInBounds_toArray, List.set_cons_zero, List.set_cons_succ]
                refine wpAnyH_take (i := 8) (v := ?v151) (by simp only [List.getElem?_toArray, List.getElem?_cons_zero, List.getElem?_cons_succ]; rfl) (by kernel_rfl) (by kernel_rfl) (by kernel_rfl) (by exact fun _ _ _ h => h) (Or.inl ⟨by rfl, ?h151⟩) (by assumption) ?r151
                case h151 => (intro w hSw; (try dsimp only at hSw); go_simp; try with_reducible rfl)
                try simp only [Act.put, List.setIfInBounds_toArray, List.set_cons_zero, List.set_cons_succ]
                refine wpAnyH_take (i := 9) (v := ?v152) (by simp only [List.getElem?_toArray, List.getElem?_cons_zero, List.getElem?_cons_succ]; rfl) (by kernel_rfl) (by kernel_rfl) (by kernel_rfl) (by exact fun _ _ _ h => h) (Or.inl ⟨by rfl, ?h152⟩) (by assumption) ?r152
                case h152 => (intro w hSw; (try dsimp only at hSw); go_simp; try with_reducible rfl)
                try simp only [Act.put, List.setIfInBounds_toArray, List.set_cons_zero, List.set_cons_succ]
                refine wpAnyH_take (i := 10) (v := ?v153) (by simp only [List.getElem?_toArray, List.getElem?_cons_zero, List.getElem?_cons_succ]; rfl) (by kernel_rfl) (by kernel_rfl) (by kernel_rfl) (by exact fun _ _ _ h => h) (Or.inl ⟨by rfl, ?h153⟩) (by assumption) ?r153
                case h153 => (intro w hSw; (try dsimp only at hSw); go_simp; try with_reducible rfl)
                try simp only [Act.put, List.setIfInBounds_toArray, List.set_cons_zero, List.set_cons_succ]
                refine wpAnyH_take (i := 11) (v := ?v154) (by simp only [List.getElem?_toArray, List.getElem?_cons_zero, List.getElem?_cons_succ]; rfl) (by kernel_rfl) (by kernel_rfl) (by kernel_rfl) (by exact fun _ _ _ h => h) (Or.inl ⟨by rfl, ?h154⟩) (by assumption) ?r154
                case h154 => (intro w hSw; (try dsimp only at hSw); go_simp; try with_reducible rfl)
                try simp only [Act.put, List.setIfInBounds_toArray, List.set_cons_zero, List.set_cons_succ]
                refine wpAnyH_take (i := 12) (v := ?v155) (by simp only [List.getElem?_toArray, List.getElem?_cons_zero, List.getElem?_cons_succ]; rfl) (by kernel_rfl) (by kernel_rfl) (by kernel_rfl) (by exact fun _ _ _ h => h) (Or.inl ⟨by rfl, ?h155⟩) (by assumption) ?r155
                case h155 => (intro w hSw; (try dsimp only at hSw); go_simp; try with_reducible rfl)
                try simp only [Act.put, List.setIfInBounds_toArray, List.set_cons_zero, List.set_cons_succ]
                refine wpAnyH_take (i := 14) (v := ?v156) (by simp only [List.getElem?_toArray, List.getElem?_cons_zero, List.getElem?_cons_succ]; rfl) (by kernel_rfl) (by kernel_rfl) (by kernel_rfl) (by exact fun _ _ _ h => h) (Or.inl ⟨by rfl, ?h156⟩) (by assumption) ?r156
                case h156 => (intro w hSw; (try dsimp only at hSw); go_simp; try with_reducible rfl)
                try simp only [Act.put, List.setIfInBounds_toArray, List.set_cons_zero, List.set_cons_succ]
                refine wpAnyH_ready (rs := [13]) (by kernel_rfl) (by simp) ?_
                refine (AllReadyH.cons (by simp only [List.getElem?_toArray, List.getElem?_cons_zero, List.getElem?_cons_succ]; rfl) (fun K hK => ?_) AllReadyH.nil)
                go_simp
                go_at_call 100
                refine (TK _).mono ?_
                rintro e wq157 ⟨v157, rfl, o157, C157⟩
                obtain ⟨b157, c157, e8157, r157, -, -, -⟩ := own96 o157
                subst e8157
                have BB157 := (BB145).trans (C157.mono (Below.size (BB145)))
                refine hK.out _ _ (SC _ BB157) (fun hH158 => ?_)
                clear hK
                try simp only [Act.put, List.setIfInBounds_toArray, List.set_cons_zero, List.set_cons_succ]
                refine wpAnyH_ready (rs := [15]) (by kernel_rfl) (by simp) ?_
                refine (AllReadyH.cons (by simp only [List.getElem?_toArray, List.getElem?_cons_zero, List.getElem?_cons_succ]; rfl) (fun K hK => ?_) AllReadyH.nil)
                have EQ159 := equalB_any (some b157) (some ⟨g, 0, none⟩) 96 96 c157 c (coverT n1 n2) z _ (r157) (RZ2.out.below (BB157) (Nat.le_refl _)) (coverT_length _ _) HZ96.out (by decide) (coverT_bytes _ _) HZB.out
                rw [HEQ.out] at EQ159
                go_simp
                go_at_call 40
                refine EQ159.mono ?_
                rintro e wq159 ⟨rfl, q159, rfl⟩
                clear EQ159
                have BB159 := Below.drewN (BB157) q159
                refine hK.out _ _ (SC _ BB159) (fun hH160 => ?_)
                clear hK
                try simp only [Act.put, List.setIfInBounds_toArray, List.set_cons_zero, List.set_cons_succ]
                refine wpAnyH_take (i := 16) (v := ?v161) (by simp only [List.getElem?_toArray, List.getElem?_cons_zero, List.getElem?_cons_succ]; rfl) (by kernel_rfl) (by kernel_rfl) (by kernel_rfl) (by exact fun _ _ _ h => h) (Or.inl ⟨by rfl, ?h161⟩) (by assumption) ?r161
                case h161 => (intro w hSw; (try dsimp only at hSw); go_simp; try with_reducible rfl)
                try simp only [Act.put, List.setIfInBounds_toArray, List.set_cons_zero, List.set_cons_succ]
                refine wpAnyH_take (i := 17) (v := ?v162) (by simp only [List.getElem?_toArray, List.getElem?_cons_zero, List.getElem?_cons_succ]; rfl) (by kernel_rfl) (by kernel_rfl) (by kernel_rfl) (by exact fun _ _ _ h => h) (Or.inl ⟨by rfl, ?h162⟩) (by assumption) ?r162
                case h162 => (intro w hSw; (try dsimp only at hSw); go_simp; try with_reducible rfl)
                try simp only [Act.put, List.setIfInBounds_toArray, List.set_cons_zero, List.set_cons_succ]
                refine wpAnyH_take (i := 18) (v := ?v163) (by simp only [List.getElem?_toArray, List.getElem?_cons_zero, List.getElem?_cons_succ]; rfl) (by kernel_rfl) (by kernel_rfl) (by kernel_rfl) (by exact fun _ _ _ h => h) (Or.inl ⟨by rfl, ?h163⟩) (by assumption) ?r163
                case h163 => (intro w hSw; (try dsimp only at hSw); go_simp; try with_reducible rfl)
                try simp only [Act.put, List.setIfInBounds_toArray, List.set_cons_zero, List.set_cons_succ]
                refine wpAnyH_take (i := 19) (v := ?v164) (by simp only [List.getElem?_toArray, List.getElem?_cons_zero, List.getElem?_cons_succ]; rfl) (by kernel_rfl) (by kernel_rfl) (by kernel_rfl) (by exact fun _ _ _ h => h) (Or.inl ⟨by rfl, ?h164⟩) (by assumption) ?r164
                case h164 => (intro w hSw; (try dsimp only at hSw); go_simp; try with_reducible rfl)
                try simp only [Act.put, List.setIfInBounds_toArray, List.set_cons_zero, List.set_cons_succ]
                refine wpAnyH_take (i := 20) (v := ?v165) (by simp only [List.getElem?_toArray, List.getElem?_cons_zero, List.getElem?_cons_succ]; rfl) (by kernel_rfl) (by kernel_rfl) (by kernel_rfl) (by exact fun _ _ _ h => h) (Or.inl ⟨by rfl, ?h165⟩) (by assumption) ?r165
                case h165 => (intro w hSw; (try dsimp only at hSw); go_simp; try with_reducible rfl)
                try simp only [Act.put, List.setIfInBounds_toArray, List.set_cons_zero, List.set_cons_succ]
                refine wpAnyH_take (i := 21) (v := ?v166) (by simp only [List.getElem?_toArray, List.getElem?_cons_zero, List.getElem?_cons_succ]; rfl) (by kernel_rfl) (by kernel_rfl) (by kernel_rfl) (by exact fun _ _ _ h => h) (Or.inl ⟨by rfl, ?h166⟩) (by assumption) ?r166
                case h166 => (intro w hSw; (try dsimp only at hSw); go_simp; try with_reducible rfl)
                try simp only [Act.put, List.setIfInBounds_toArray, List.set_cons_zero, List.set_cons_succ]
                refine wpAnyH_take (i := 22) (v := ?v167) (by simp only [List.getElem?_toArray, List.getElem?_cons_zero, List.getElem?_cons_succ]; rfl) (by kernel_rfl) (by kernel_rfl) (by kernel_rfl) (by exact fun _ _ _ h => h) (Or.inl ⟨by rfl, ?h167⟩) (by assumption) ?r167
                case h167 => (intro w hSw; (try dsimp only at hSw); go_simp; try with_reducible rfl)
                try simp only [Act.put, List.setIfInBounds_toArray, List.set_cons_zero, List.set_cons_succ]
                refine wpAnyH_take (i := 23) (v := ?v168) (by simp only [List.getElem?_toArray, List.getElem?_cons_zero, List.getElem?_cons_succ]; rfl) (by kernel_rfl) (by kernel_rfl) (by kernel_rfl) (by exact fun _ _ _ h => h) (Or.inl ⟨by rfl, ?h168⟩) (by assumption) ?r168
                case h168 => (intro w hSw; (try dsimp only at hSw); go_simp; try with_reducible rfl)
                try simp only [Act.put, List.setIfInBounds_toArray, List.set_cons_zero, List.set_cons_succ]
                refine wpAnyH_done (by kernel_rfl) ?_ _
                have CRF := hid (CR2.out.below (BB159) (Nat.le_refl _))
                have CBF := hid (CB2.out.below (BB159) (Nat.le_refl _))
                have BRF := hid (BR2.out.trans ((BB159).mono (by have := BR2.out.size; omega)))
                go_wp2_with fail
                go_roundw
                case measure => simp [intOf]; omega
                case rel => exact ⟨k + 1, by go_num, by omega, CRF, by rw [NXT.out]; exact CBF, BRF⟩
          · have hrm : (n1 % 2 == (k : Int)) = false := by simpa using hrem
            have NXT := hid (show bestK s (k + 1) = (bx, by1) by show better s k (bestK s k) = _; rw [HBK.out, HBT.out, if_neg]; rintro ⟨h, -⟩; rw [HIC.out, HMY.out, decide_eq_false hrem] at h; simp at h)
            clear hrem
            go_wp2_with fail
            refine wp_region_held_drew (S := fun w' => Below wc.heap.size wc w' ∧ w'.cell? ⟨cb, 0, none⟩ = some (.int .i64 n1) ∧ w'.cell? ⟨cb, 1, none⟩ = some (.int .i64 n2) ∧ w'.cell? ⟨rb + 1, 0, none⟩ = some (.int .i64 bx)) (by kernel_rfl) (SC _ ((Below.refl wc.heap.size wc).drew)) (fun hHeld => ?_)
            refine wpAnyH_take (i := 0) (v := ?v59) (by simp only [List.getElem?_toArray, List.getElem?_cons_zero]; rfl) (by kernel_rfl) (by kernel_rfl) (by kernel_rfl) (by exact fun _ _ _ h => h) (Or.inl ⟨by rfl, ?h59⟩) (by assumption) ?r59
            case h59 => (intro w hSw; (try dsimp only at hSw); go_simp; try with_reducible rfl)
            try simp only [Act.put, List.setIfInBounds_toArray, List.set_cons_zero, List.set_cons_succ]
            refine wpAnyH_take (i := 1) (v := ?v60) (by simp only [List.getElem?_toArray, List.getElem?_cons_zero, List.getElem?_cons_succ]; rfl) (by kernel_rfl) (by kernel_rfl) (by kernel_rfl) (by exact fun _ _ _ h => h) (Or.inl ⟨by rfl, ?h60⟩) (by assumption) ?r60
            case h60 => (intro w hSw; (try dsimp only at hSw); go_simp; try with_reducible rfl)
            try simp only [Act.put, List.setIfInBounds_toArray, List.set_cons_zero, List.set_cons_succ]
            refine wpAnyH_ready (rs := [2]) (by kernel_rfl) (by simp) ?_
            refine (AllReadyH.cons (by simp only [List.getElem?_toArray, List.getElem?_cons_zero, List.getElem?_cons_succ]; rfl) (fun K hK => ?_) AllReadyH.nil)
            go_simp
            go_at_call 86
            refine (TR _ (HW1.out.trans (((Below.refl wc.heap.size wc).drew).mono HW1.out.size))).mono ?_
            rintro e wq61 ⟨rfl, rfl⟩
            refine hK.out _ _ (SC _ (Below.refl wc.heap.size wc).drew) (fun hH62 => ?_)
            clear hK
            try simp only [Act.put, List.setIfInBounds_toArray, List.set_cons_zero, List.set_cons_succ]
            refine wpAnyH_ready (rs := [3]) (by kernel_rfl) (by simp) ?_
            refine (AllReadyH.cons (by simp only [List.getElem?_toArray, List.getElem?_cons_zero, List.getElem?_cons_succ]; rfl) (fun K hK => ?_) AllReadyH.nil)
            go_simp
            go_at_call 89
            refine (MC _).mono ?_
            rintro e wq63 ⟨rfl, C63⟩
            have BB63 := ((Below.refl wc.heap.size wc).drew).trans (C63.mono (Below.size ((Below.refl wc.heap.size wc).drew)))
            refine hK.out _ _ (SC _ BB63) (fun hH64 => ?_)
            clear hK
            try simp only [Act.put, List.setIfInBounds_toArray, List.set_cons_zero, List.set_cons_succ]
            refine wpAnyH_take (i := 4) (v := ?v65) (by simp only [List.getElem?_toArray, List.getElem?_cons_zero, List.getElem?_cons_succ]; rfl) (by kernel_rfl) (by kernel_rfl) (by kernel_rfl) (by exact fun _ _ _ h => h) (Or.inl ⟨by rfl, ?h65⟩) (by assumption) ?r65
            case h65 => (intro w hSw; (try dsimp only at hSw); go_simp; try with_reducible rfl)
            try simp only [Act.put, List.setIfInBounds_toArray, List.set_cons_zero, List.set_cons_succ]
            refine wpAnyH_take (i := 5) (v := ?v66) (by simp only [List.getElem?_toArray, List.getElem?_cons_zero, List.getElem?_cons_succ]; rfl) (by kernel_rfl) (by kernel_rfl) (by kernel_rfl) (by exact fun _ _ _ h => h) (Or.inl ⟨by rfl, ?h66⟩) (by assumption) ?r66
            case h66 => (intro w hSw; (try dsimp only at hSw); go_simp; try with_reducible rfl)
            try simp only [Act.put, List.setIfInBounds_toArray, List.set_cons_zero, List.set_cons_succ]
            refine wpAnyH_take (i := 6) (v := ?v67) (by simp only [List.getElem?_toArray, List.getElem?_cons_zero, List.getElem?_cons_succ]; rfl) (by kernel_rfl) (by kernel_rfl) (by kernel_rfl) (by exact fun _ _ _ h => h) (Or.inl ⟨by rfl, ?h67⟩) (by assumption) ?r67
            case h67 => (intro w hSw; (try dsimp only at hSw); go_simp; try with_reducible rfl)
            try simp only [Act.put, List.setIfInBounds_toArray, List.set_cons_zero, List.set_cons_succ]
            refine wpAnyH_take (i := 7) (v := ?v68) (by simp only [List.getElem?_toArray, List.getElem?_cons_zero, List.getElem?_cons_succ]; rfl) (by kernel_rfl) (by kernel_rfl) (by kernel_rfl) (by exact fun _ _ _ h => h) (Or.inl ⟨by rfl, ?h68⟩) (by assumption) ?r68
            case h68 => (intro w hSw; (try dsimp only at hSw); go_simp; try with_reducible rfl)
            try simp only [Act.put, List.setIfInBounds_toArray, List.set_cons_zero, List.set_cons_succ]
            refine wpAnyH_take (i := 8) (v := ?v69) (by simp only [List.getElem?_toArray, List.getElem?_cons_zero, List.getElem?_cons_succ]; rfl) (by kernel_rfl) (by kernel_rfl) (by kernel_rfl) (by exact fun _ _ _ h => h) (Or.inl ⟨by rfl, ?h69⟩) (by assumption) ?r69
            case h69 => (intro w hSw; (try dsimp only at hSw); go_simp; try with_reducible rfl)
            try simp only [Act.put, List.setIfInBounds_toArray, List.set_cons_zero, List.set_cons_succ]
            refine wpAnyH_take (i := 9) (v := ?v70) (by simp only [List.getElem?_toArray, List.getElem?_cons_zero, List.getElem?_cons_succ]; rfl) (by kernel_rfl) (by kernel_rfl) (by kernel_rfl) (by exact fun _ _ _ h => h) (Or.inl ⟨by rfl, ?h70⟩) (by assumption) ?r70
            case h70 => (intro w hSw; (try dsimp only at hSw); go_simp; try with_reducible rfl)
            try simp only [Act.put, List.setIfInBounds_toArray, List.set_cons_zero, List.set_cons_succ]
            refine wpAnyH_take (i := 10) (v := ?v71) (by simp only [List.getElem?_toArray, List.getElem?_cons_zero, List.getElem?_cons_succ]; rfl) (by kernel_rfl) (by kernel_rfl) (by kernel_rfl) (by exact fun _ _ _ h => h) (Or.inl ⟨by rfl, ?h71⟩) (by assumption) ?r71
            case h71 => (intro w hSw; (try dsimp only at hSw); go_simp; try with_reducible rfl)
            try simp only [Act.put, List.setIfInBounds_toArray, List.set_cons_zero, List.set_cons_succ]
            refine wpAnyH_take (i := 11) (v := ?v72) (by simp only [List.getElem?_toArray, List.getElem?_cons_zero, List.getElem?_cons_succ]; rfl) (by kernel_rfl) (by kernel_rfl) (by kernel_rfl) (by exact fun _ _ _ h => h) (Or.inl ⟨by rfl, ?h72⟩) (by assumption) ?r72
            case h72 => (intro w hSw; (try dsimp only at hSw); go_simp; try with_reducible rfl)
            try simp only [Act.put, List.setIfInBounds_toArray, List.set_cons_zero, List.set_cons_succ]
            refine wpAnyH_take (i := 12) (v := undef) (by simp only [List.getElem?_toArray, List.getElem?_cons_zero, List.getElem?_cons_succ]; rfl) (by kernel_rfl) (by kernel_rfl) (by kernel_rfl) (by exact fun _ _ _ h => h) (Or.inr ⟨by rfl, rfl⟩) (by assumption) ?r73
            try simp only [Act.put, List.setIfInBounds_toArray, List.set_cons_zero, List.set_cons_succ]
            refine wpAnyH_take (i := 13) (v := undef) (by simp only [List.getElem?_toArray, List.getElem?_cons_zero, List.getElem?_cons_succ]; rfl) (by kernel_rfl) (by kernel_rfl) (by kernel_rfl) (by exact fun _ _ _ h => h) (Or.inr ⟨by rfl, rfl⟩) (by assumption) ?r74
            try simp only [Act.put, List.setIfInBounds_toArray, List.set_cons_zero, List.set_cons_succ]
            refine wpAnyH_take (i := 14) (v := undef) (by simp only [List.getElem?_toArray, List.getElem?_cons_zero, List.getElem?_cons_succ]; rfl) (by kernel_rfl) (by kernel_rfl) (by kernel_rfl) (by exact fun _ _ _ h => h) (Or.inr ⟨by rfl, rfl⟩) (by assumption) ?r75
            try simp only [Act.put, List.setIfInBounds_toArray, List.set_cons_zero, List.set_cons_succ]
            refine wpAnyH_take (i := 15) (v := undef) (by simp only [List.getElem?_toArray, List.getElem?_cons_zero, List.getElem?_cons_succ]; rfl) (by kernel_rfl) (by kernel_rfl) (by kernel_rfl) (by exact fun _ _ _ h => h) (Or.inr ⟨by rfl, rfl⟩) (by assumption) ?r76
            try simp only [Act.put, List.setIfInBounds_toArray, List.set_cons_zero, List.set_cons_succ]
            refine wpAnyH_take (i := 16) (v := ?v77) (by simp only [List.getElem?_toArray, List.getElem?_cons_zero, List.getElem?_cons_succ]; rfl) (by kernel_rfl) (by kernel_rfl) (by kernel_rfl) (by exact fun _ _ _ h => h) (Or.inl ⟨by rfl, ?h77⟩) (by assumption) ?r77
            case h77 => (intro w hSw; (try dsimp only at hSw); go_simp; try with_reducible rfl)
            try simp only [Act.put, List.setIfInBounds_toArray, List.set_cons_zero, List.set_cons_succ]
            refine wpAnyH_take (i := 17) (v := ?v78) (by simp only [List.getElem?_toArray, List.getElem?_cons_zero, List.getElem?_cons_succ]; rfl) (by kernel_rfl) (by kernel_rfl) (by kernel_rfl) (by exact fun _ _ _ h => h) (Or.inl ⟨by rfl, ?h78⟩) (by assumption) ?r78
            case h78 => (intro w hSw; (try dsimp only at hSw); go_simp; try with_reducible rfl)
            try simp only [Act.put, List.setIfInBounds_toArray, List.set_cons_zero, List.set_cons_succ]
            refine wpAnyH_take (i := 18) (v := undef) (by simp only [List.getElem?_toArray, List.getElem?_cons_zero, List.getElem?_cons_succ]; rfl) (by kernel_rfl) (by kernel_rfl) (by kernel_rfl) (by exact fun _ _ _ h => h) (Or.inr ⟨by rfl, rfl⟩) (by assumption) ?r79
            try simp only [Act.put, List.setIfInBounds_toArray, List.set_cons_zero, List.set_cons_succ]
            refine wpAnyH_take (i := 19) (v := undef) (by simp only [List.getElem?_toArray, List.getElem?_cons_zero, List.getElem?_cons_succ]; rfl) (by kernel_rfl) (by kernel_rfl) (by kernel_rfl) (by exact fun _ _ _ h => h) (Or.inr ⟨by rfl, rfl⟩) (by assumption) ?r80
            try simp only [Act.put, List.setIfInBounds_toArray, List.set_cons_zero, List.set_cons_succ]
            refine wpAnyH_take (i := 20) (v := undef) (by simp only [List.getElem?_toArray, List.getElem?_cons_zero, List.getElem?_cons_succ]; rfl) (by kernel_rfl) (by kernel_rfl) (by kernel_rfl) (by exact fun _ _ _ h => h) (Or.inr ⟨by rfl, rfl⟩) (by assumption) ?r81
            try simp only [Act.put, List.setIfInBounds_toArray, List.set_cons_zero, List.set_cons_succ]
            refine wpAnyH_take (i := 21) (v := undef) (by simp only [List.getElem?_toArray, List.getElem?_cons_zero, List.getElem?_cons_succ]; rfl) (by kernel_rfl) (by kernel_rfl) (by kernel_rfl) (by exact fun _ _ _ h => h) (Or.inr ⟨by rfl, rfl⟩) (by assumption) ?r82
            try simp only [Act.put, List.setIfInBounds_toArray, List.set_cons_zero, List.set_cons_succ]
            refine wpAnyH_take (i := 22) (v := undef) (by simp only [List.getElem?_toArray, List.getElem?_cons_zero, List.getElem?_cons_succ]; rfl) (by kernel_rfl) (by kernel_rfl) (by kernel_rfl) (by exact fun _ _ _ h => h) (Or.inr ⟨by rfl, rfl⟩) (by assumption) ?r83
            try simp only [Act.put, List.setIfInBounds_toArray, List.set_cons_zero, List.set_cons_succ]
            refine wpAnyH_take (i := 23) (v := ?v84) (by simp only [List.getElem?_toArray, List.getElem?_cons_zero, List.getElem?_cons_succ]; rfl) (by kernel_rfl) (by kernel_rfl) (by kernel_rfl) (by exact fun _ _ _ h => h) (Or.inl ⟨by rfl, ?h84⟩) (by assumption) ?r84
            case h84 => (intro w hSw; (try dsimp only at hSw); go_simp; try with_reducible rfl)
            try simp only [Act.put, List.setIfInBounds_toArray, List.set_cons_zero, List.set_cons_succ]
            refine wpAnyH_done (by kernel_rfl) ?_ _
            have CRF := hid (CR2.out.below (BB63) (Nat.le_refl _))
            have CBF := hid (CB2.out.below (BB63) (Nat.le_refl _))
            have BRF := hid (BR2.out.trans ((BB63).mono (by have := BR2.out.size; omega)))
            go_wp2_with fail
            go_roundw
            case measure => simp [intOf]; omega
            case rel => exact ⟨k + 1, by go_num, by omega, CRF, by rw [NXT.out]; exact CBF, BRF⟩
    · obtain rfl : k = 2 := by omega
      have cb0 := CB.out.c0
      have cb1 := CB.out.c1
      rw [bestK_two] at cb0 cb1
      have cr0 := CR.out.c0
      have cr1 := CR.out.c1
      have fr := fun o => blk_free (o := o) CR.out
      obtain ⟨⟨x, y⟩, hxy⟩ : ∃ x, readC s = x := ⟨_, rfl⟩
      rw [hxy] at cb0 cb1
      simp only at cb0 cb1
      have HXY := hid hxy
      have BF : ∀ u v, Below rb w ((wr.setCell ⟨rb, 0, none⟩ (.int .i64 u)).setCell ⟨rb, 1, none⟩ (.int .i64 v)) := fun u v => below_set (below_set BR.out (Nat.le_refl _)) (Nat.le_refl _)
      have f1 : ∀ u : Value, (wr.setCell ⟨rb, 0, none⟩ u).frozen? ⟨rb, 1, none⟩ = false := fun u => blk_free (blk_setCell CR.out u)
      have c1' : ∀ u : Value, (wr.setCell ⟨rb, 0, none⟩ u).cell? ⟨rb, 1, none⟩ = some (.int .i64 0) := fun u => blk_cell (blk_setCell CR.out u) rfl
      clear hxy
      by_cases hx : x = 0
      · have hz : readC s = (0, 0) := readC_zero (by rw [HXY.out]; exact hx)
        have HZ := hid hz
        have HE := hid (show readCode s = 11 by unfold readCode; rw [HXY.out, if_pos hx])
        clear hz
        go_wp2_with fail
        refine bodyPost_ret (results_cell_tmp rfl _ _ rb _ _ _ _ _ rfl rfl (CR.out.put 0 0) Tryz.underlying120 rfl (by kernel_rfl)) rfl ⟨by rw [HZ.out, HE.out]; rfl, by rw [HRB.out]; exact BF 0 0⟩
      · have HE := hid (show readCode s = 0 by unfold readCode; rw [HXY.out, if_neg hx])
        go_wp2_with fail
        refine bodyPost_ret (results_cell_tmp rfl _ _ rb _ _ _ _ _ rfl rfl (CR.out.put x y) Tryz.underlying120 rfl (by kernel_rfl)) rfl ⟨by rw [HXY.out, HE.out]; rfl, by rw [HRB.out]; exact BF x y⟩

theorem read_down {w : World} {M : Dom} {d : Nat} {s : DS} (h : DrumAt w M d s) (hb : s.broken = true) (hn2 : 2 ≤ s.n) :
    Calls Tryz.prog 73 #[.pointer (some ⟨d, 0, none⟩)] w fun e w' => e = .returned (.tuple #[.agg #[.int .i64 0, .int .i64 0], .int .i64 4]) ∧ Below w.heap.size w w' := by
  obtain ⟨W0, hW0⟩ : ∃ W0, (w.alloc (.cells #[.int .i64 0, .int .i64 0] 120)).alloc (.cells #[.int .i64 0, .int .i64 0] 120) = W0 := ⟨_, rfl⟩
  have BW0 : Below w.heap.size w W0 := by rw [← hW0]; exact ((Below.refl _ _).alloc (Nat.le_refl _) _).alloc (by simp) _
  obtain ⟨rb, hrb⟩ : ∃ rb, w.heap.size = rb := ⟨_, rfl⟩
  have HRB := hid hrb
  have C1 : Cov W0 rb 0 0 := by rw [← hW0, ← hrb]; exact blk_old _ (blk_new _ _)
  have LK := look_down (h.below BW0) hb 0 (by omega)
  have BH := hid BW0
  clear h hb BW0
  go_enter Tryz.func73, Tryz.ntmps73
  go_wp2_with fail
  refine wp_loop_rounds 1 ?_
  rw [rounds_succ]
  go_wp2_with fail
  refine LK.mono ?_
  rintro e w1 ⟨rfl, B1⟩
  have CR := C1.below B1 (Nat.le_refl _)
  have BF : ∀ u v, Below rb w ((w1.setCell ⟨rb, 0, none⟩ (.int .i64 u)).setCell ⟨rb, 1, none⟩ (.int .i64 v)) := fun u v => below_set (below_set (by rw [← hrb]; exact BH.out.trans (B1.mono BH.out.size)) (Nat.le_refl _)) (Nat.le_refl _)
  have cr0 := CR.c0
  have cr1 := CR.c1
  have fr := fun o => blk_free (o := o) CR
  have f1 : ∀ u : Value, (w1.setCell ⟨rb, 0, none⟩ u).frozen? ⟨rb, 1, none⟩ = false := fun u => blk_free (blk_setCell CR u)
  have c1' : ∀ u : Value, (w1.setCell ⟨rb, 0, none⟩ u).cell? ⟨rb, 1, none⟩ = some (.int .i64 0) := fun u => blk_cell (blk_setCell CR u) rfl
  clear LK B1
  go_wp2_with fail
  try simp only [Exit.inBlock, Exit.then]
  refine bodyPost_ret (results_cell_tmp rfl _ _ rb _ _ _ _ _ rfl rfl (CR.put 0 0) Tryz.underlying120 rfl (by kernel_rfl)) rfl ⟨rfl, by rw [HRB.out]; exact BF 0 0⟩

end Go.Proofs.YtleoelhhndeheaaGreat
