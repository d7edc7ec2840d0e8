/- LedgerKnown: what has no drum, a drum that was not founded, entries that do not go in, a drum that breaks -/
import Derived.Test.YtddcggdbnhmoiaaLawL3
import Derived.Test.YtddcggdbnhmoiaaLawX
open Go Go.RowKit
namespace Go.Proofs.Ytddcggdbnhmoiaa

theorem openNil_any (w : World) : Calls Try.prog 15 #[.pointer none] w fun e w' => e = .returned (.tuple #[.pointer none, .int .i64 1]) ∧ Below w.heap.size w w' := by
  go_enter Try.func15, Try.ntmps15
  go_wp2_with fail
  go_ret2
  exact ⟨rfl, Below.refl _ _⟩
theorem foundNil_any (l : Int) (w : World) : Calls Try.prog 24 #[.pointer none, .int .i64 l] w fun e w' => e = .returned (.int .i64 1) ∧ Below w.heap.size w w' := by
  obtain ⟨W0, hW0⟩ : ∃ W0, w.alloc (.cells #[.int .i64 1, .int .i64 l] 61) = W0 := ⟨_, rfl⟩
  have hB1 : Below w.heap.size w W0 := by rw [← hW0]; exact (Below.refl _ _).alloc (Nat.le_refl _) _
  have SV : ∀ W, Below W0.heap.size W0 W → True := fun _ _ => trivial
  go_enter Try.func24, Try.ntmps24
  go_wp2_with fail
  refine wp_region_held_drew (S := fun _ => True) (by kernel_rfl) (SV _ ((Below.refl W0.heap.size W0).drew)) (fun hHeld => ?_)
  refine wpAnyH_take (i := 0) (v := ?v1) (by simp only [List.getElem?_toArray, List.getElem?_cons_zero]; rfl) (by kernel_rfl) (by kernel_rfl) (by kernel_rfl) (by exact fun _ _ _ h => h) (Or.inl ⟨by rfl, ?h1⟩) (by assumption) ?r1
  case h1 => (intro w hSw; (try dsimp only at hSw); go_simp; try with_reducible rfl)
  try simp only [Act.put, List.setIfInBounds_toArray, List.set_cons_zero, List.set_cons_succ]
  refine wpAnyH_take (i := 1) (v := ?v2) (by simp only [List.getElem?_toArray, List.getElem?_cons_zero, List.getElem?_cons_succ]; rfl) (by kernel_rfl) (by kernel_rfl) (by kernel_rfl) (by exact fun _ _ _ h => h) (Or.inl ⟨by rfl, ?h2⟩) (by assumption) ?r2
  case h2 => (intro w hSw; (try dsimp only at hSw); go_simp; try with_reducible rfl)
  try simp only [Act.put, List.setIfInBounds_toArray, List.set_cons_zero, List.set_cons_succ]
  refine wpAnyH_take (i := 2) (v := ?v3) (by simp only [List.getElem?_toArray, List.getElem?_cons_zero, List.getElem?_cons_succ]; rfl) (by kernel_rfl) (by kernel_rfl) (by kernel_rfl) (by exact fun _ _ _ h => h) (Or.inl ⟨by rfl, ?h3⟩) (by assumption) ?r3
  case h3 => (intro w hSw; (try dsimp only at hSw); go_simp; try with_reducible rfl)
  try simp only [Act.put, List.setIfInBounds_toArray, List.set_cons_zero, List.set_cons_succ]
  refine wpAnyH_take (i := 3) (v := undef) (by simp only [List.getElem?_toArray, List.getElem?_cons_zero, List.getElem?_cons_succ]; rfl) (by kernel_rfl) (by kernel_rfl) (by kernel_rfl) (by exact fun _ _ _ h => h) (Or.inr ⟨by rfl, rfl⟩) (by assumption) ?r4
  try simp only [Act.put, List.setIfInBounds_toArray, List.set_cons_zero, List.set_cons_succ]
  refine wpAnyH_take (i := 4) (v := undef) (by simp only [List.getElem?_toArray, List.getElem?_cons_zero, List.getElem?_cons_succ]; rfl) (by kernel_rfl) (by kernel_rfl) (by kernel_rfl) (by exact fun _ _ _ h => h) (Or.inr ⟨by rfl, rfl⟩) (by assumption) ?r5
  try simp only [Act.put, List.setIfInBounds_toArray, List.set_cons_zero, List.set_cons_succ]
  refine wpAnyH_take (i := 5) (v := undef) (by simp only [List.getElem?_toArray, List.getElem?_cons_zero, List.getElem?_cons_succ]; rfl) (by kernel_rfl) (by kernel_rfl) (by kernel_rfl) (by exact fun _ _ _ h => h) (Or.inr ⟨by rfl, rfl⟩) (by assumption) ?r6
  try simp only [Act.put, List.setIfInBounds_toArray, List.set_cons_zero, List.set_cons_succ]
  refine wpAnyH_take (i := 6) (v := undef) (by simp only [List.getElem?_toArray, List.getElem?_cons_zero, List.getElem?_cons_succ]; rfl) (by kernel_rfl) (by kernel_rfl) (by kernel_rfl) (by exact fun _ _ _ h => h) (Or.inr ⟨by rfl, rfl⟩) (by assumption) ?r7
  try simp only [Act.put, List.setIfInBounds_toArray, List.set_cons_zero, List.set_cons_succ]
  refine wpAnyH_take (i := 7) (v := undef) (by simp only [List.getElem?_toArray, List.getElem?_cons_zero, List.getElem?_cons_succ]; rfl) (by kernel_rfl) (by kernel_rfl) (by kernel_rfl) (by exact fun _ _ _ h => h) (Or.inr ⟨by rfl, rfl⟩) (by assumption) ?r8
  try simp only [Act.put, List.setIfInBounds_toArray, List.set_cons_zero, List.set_cons_succ]
  refine wpAnyH_take (i := 8) (v := ?v9) (by simp only [List.getElem?_toArray, List.getElem?_cons_zero, List.getElem?_cons_succ]; rfl) (by kernel_rfl) (by kernel_rfl) (by kernel_rfl) (by exact fun _ _ _ h => h) (Or.inl ⟨by rfl, ?h9⟩) (by assumption) ?r9
  case h9 => (intro w hSw; (try dsimp only at hSw); go_simp; try with_reducible rfl)
  try simp only [Act.put, List.setIfInBounds_toArray, List.set_cons_zero, List.set_cons_succ]
  refine wpAnyH_done (by kernel_rfl) ?_ _
  have BE := hid ((Below.refl W0.heap.size W0).drew)
  go_wp2_with fail
  go_ret
  exact ⟨rfl, hB1.trans (BE.out.mono hB1.size)⟩
theorem new_blank (n : Nat) : (DS.new n).openL = (11, openedL (DS.new n), DS.new n) := by
  have hc : ∀ k, isCover (DS.new n) k = false := fun k => by
    unfold isCover
    have : num (cut ((DS.new n).now k) 0 4) = 0 := (by decide : num (cut zeros96 0 4) = 0)
    rw [this]
    rfl
  have hb : ∀ k b, better (DS.new n) k b = b := fun k b => by
    unfold better
    rw [if_neg (by rw [hc]; simp)]
  have hr : readC (DS.new n) = (0, 0) := by unfold readC; rw [hb, hb]
  unfold DS.openL
  rw [if_neg (by show ¬ (false = true); simp), hr, if_pos rfl]
theorem openRaw_any {w : World} {M : Dom} {d : Nat} (h : DrumAt w M d (DS.new 20)) :
    Calls Try.prog 15 #[.pointer (some ⟨d, 0, none⟩)] w fun e w' => e = .returned (.tuple #[.pointer none, .int .i64 11]) ∧ ∃ M', DrumAt w' M' d (DS.new 20) ∧ LStep M none' w M' none' w' := by
  refine (open_any h (by show 2 ≤ 20; omega) (by show 20 ≤ 4096; omega) (by show 0 < 300000000; omega)).mono ?_
  rintro e w' (⟨hx, -⟩ | ⟨-, M', rfl, D, LT⟩)
  · rw [new_blank] at hx; exact absurd hx (by decide)
  · rw [new_blank] at D ⊢
    exact ⟨rfl, M', D, LT⟩
theorem foundBad_any {w : World} {M : Dom} {d : Nat} (h : DrumAt w M d (DS.new 20)) (l : Int) (hl : -1000000000 ≤ l ∧ l ≤ 1000000000) (hm : mayC 1 l 20 = false) :
    Calls Try.prog 24 #[.pointer (some ⟨d, 0, none⟩), .int .i64 l] w fun e w' => e = .returned (.int .i64 1) ∧ ∃ M', DrumAt w' M' d (DS.new 20) ∧ LStep M none' w M' none' w' := by
  have e1 : (DS.new 20).founded l = (1, DS.new 20) := by unfold DS.founded; rw [if_neg (by show ¬ (mayC 1 l ((20 : Nat) : Int) = true); rw [show ((20 : Nat) : Int) = 20 from rfl, hm]; simp)]
  refine (found_any h l hl (by show 0 < 500000000; omega)).mono ?_
  rintro e w' ⟨rfl, M', D, S⟩
  rw [e1] at D ⊢
  exact ⟨rfl, M', D, LStep.of_step S⟩

/-- a Write that is refused -/
theorem badWrite {w : World} {M : Dom} {B : Nat → Prop} {d l mb n : Nat} {lv : Int} {N : Nat} {V : Nat → List Int} {s : DS} {L : LS} (h : Live w M B d l mb n lv N V s L) (hN : N ≤ 1000) (ea : Option Addr) (en cap : Nat) (el : List Ent) (hE : EntsAt w (inD M) ea en el) (hn : en ≤ 600) (hm : mayE el (homes n lv) = false) :
    Calls Try.prog 17 #[.pointer (some ⟨l, 0, none⟩), .slice ea en cap] w fun e w' => e = .returned (.int .i64 1) ∧ ∃ M' B' mb', LStep M B w M' B' w' ∧ Live w' M' B' d l mb' n lv N V s L := by
  have hr := h.round
  have hu := h.up
  have e1 : L.write s el = (1, L, s) := by unfold LS.write; rw [h.H, if_neg (by rw [hm]; simp)]
  refine (write_any h.sys h.ok (by omega) (by omega) ea en cap el hE (by omega)).mono ?_
  rintro e w' ⟨rfl, M', B', mb', SY, LT⟩
  rw [e1] at SY ⊢
  exact ⟨rfl, M', B', mb', LT, SY, h.full, h.n, h.leaves, h.up, h.round, h.last, h.v⟩
theorem bigWrite {w : World} {M : Dom} {B : Nat → Prop} {d l mb n : Nat} {lv : Int} {N : Nat} {V : Nat → List Int} {s : DS} {L : LS} (h : Live w M B d l mb n lv N V s L) (hN : N ≤ 1000) (ea : Option Addr) (en cap : Nat) (el : List Ent) (hE : EntsAt w (inD M) ea en el) (hn : en ≤ 600) (hm : mayE el (homes n lv) = true) (hbig : leavesN el.length > lv) :
    Calls Try.prog 17 #[.pointer (some ⟨l, 0, none⟩), .slice ea en cap] w fun e w' => e = .returned (.int .i64 5) ∧ ∃ M' B' mb', LStep M B w M' B' w' ∧ Live w' M' B' d l mb' n lv N V s L := by
  have hr := h.round
  have hu := h.up
  have hlo : L.lost = false := by obtain ⟨P, f⟩ := h.full; exact f.lost
  have e1 : L.write s el = (5, L, s) := by unfold LS.write; rw [h.H, if_pos hm, hlo, if_neg (by simp), if_pos (by rw [h.leaves]; exact hbig)]
  refine (write_any h.sys h.ok (by omega) (by omega) ea en cap el hE (by omega)).mono ?_
  rintro e w' ⟨rfl, M', B', mb', SY, LT⟩
  rw [e1] at SY ⊢
  exact ⟨rfl, M', B', mb', LT, SY, h.full, h.n, h.leaves, h.up, h.round, h.last, h.v⟩
/-- a Write of one entry where all leaves are blank -/
theorem goodWrite {w : World} {M : Dom} {B : Nat → Prop} {d l mb n : Nat} {lv : Int} {N : Nat} {V : Nat → List Int} {s : DS} {L : LS} (h : Live w M B d l mb n lv N V s L) (hN : N ≤ 1000) (hu0 : L.used = 0) (ea : Option Addr) (cap : Nat) (k : Int) (z : List Int) (hE : EntsAt w (inD M) ea 1 [(k, z)]) (hk : 0 ≤ k ∧ k < homes n lv) (hz : z.length = 96) (hb : IsBytes z) :
    Calls Try.prog 17 #[.pointer (some ⟨l, 0, none⟩), .slice ea 1 cap] w fun e w' => e = .returned (.int .i64 0) ∧ ∃ M' B' mb' s' L' V', LStep M B w M' B' w' ∧ Live w' M' B' d l mb' n lv (N + 1) V' s' L' ∧ L'.used = 2 := by
  have hr := h.round
  have hu := h.up
  have hla := h.last
  have hH := h.H
  have hl := h.ok.l
  have hm := mayE_one (H := homes n lv) hk hz
  have h2 : leavesN ([(k, z)] : List Ent).length = 2 := (by decide : leavesN ((1 : Nat) : Int) = 2)
  have hbz : ∀ x ∈ [(k, z)], IsBytes x.2 := fun x hx => by
    obtain rfl : x = (k, z) := by simpa using hx
    exact hb
  obtain ⟨P, f⟩ := h.full
  have he : PostOk [(k, z)] (L.H s) := ⟨by rw [hH]; exact hm, by have := f.g.ok.n1; unfold LS.H; omega, by show 1 ≤ 600; omega⟩
  obtain ⟨L', s', h1, h3, h4, h5, h6, h7, h8, h9⟩ := f.lay he hbz (by rw [h2]; omega) (by omega)
  have kp := LS.write_keep (el := [(k, z)]) f.g.ok hbz (by omega) (by omega)
  have hw : L.write s [(k, z)] = (0, L', s') := by
    unfold LS.write
    rw [if_pos he.may, f.lost, if_neg (by simp), if_neg (by omega), if_neg (by omega)]
    unfold LS.layEnds
    rw [h1, ends_zero]
  refine (write_any h.sys h.ok (by omega) (by omega) ea 1 cap _ hE (by omega)).mono ?_
  rintro e w' ⟨rfl, M', B', mb', SY, LT⟩
  have up2 := kp.up
  rw [hw] at SY up2 ⊢
  have hus : L'.used = 2 := by
    have q1 := f.used
    have q2 := h3.used
    rw [h4, postsFrom_append, List.length_append] at q2
    have q3 : (postsFrom L.round (1 + (P.length : Int)) [[(k, z)]]).length = 2 := by
      show (postL L.round _ [(k, z)] ++ []).length = 2
      rw [List.append_nil, postL_len]; unfold postN; rw [h2]; rfl
    omega
  have h10 : s'.up.length ≤ s.up.length + 9000 := up2
  exact ⟨rfl, M', B', mb', s', L', fun j => view L' s' j, LT, ⟨SY, ⟨_, h3⟩, h7.trans h.n, h5.trans h.leaves, by omega, by omega, by omega, fun _ _ => rfl⟩, hus⟩
/-- two entries, and one of no bytes -/
theorem ents_two {w : World} {N : Nat → Prop} {ge gp gq cp cq t : Nat} {tt : TypeId} {k : Int} {z y : List Int} {j : Int} {o1 : Nat × Nat} (he : w.heap[ge]? = some (.cells #[.int .i64 k, .slice (some ⟨gp, 0, none⟩) 96 cp, .int .i64 j, .slice (some ⟨gq, 0, none⟩) 96 cq] t o1)) (hp : w.heap[gp]? = some (.cells (B8 z).toArray tt (0, 0))) (hq : w.heap[gq]? = some (.cells (B8 y).toArray tt (0, 0))) (hz : z.length = 96) (hy : y.length = 96) (hb : IsBytes z) (hc : IsBytes y) (hk : -9223372036854775808 ≤ k ∧ k ≤ 9223372036854775807) (hj : -9223372036854775808 ≤ j ∧ j ≤ 9223372036854775807) (h1 : ¬ N ge) (h2 : ¬ N gp) (h3 : ¬ N gq) : EntsAt w N (some ⟨ge, 0, none⟩) 2 [(k, z), (j, y)] := by
  refine ⟨rfl, fun _ => rfl, fun i x hi => ?_, fun i x hi => ?_, fun x hx => ?_, fun _ => h1⟩
  · rcases i with _ | _ | i
    · obtain rfl : (k, z) = x := by simpa using hi
      exact blk_cell he rfl
    · obtain rfl : (j, y) = x := by simpa using hi
      exact blk_cell he rfl
    · simp at hi
  · rcases i with _ | _ | i
    · obtain rfl : (k, z) = x := by simpa using hi
      exact ⟨some ⟨gp, 0, none⟩, cp, by rw [hz]; exact blk_cell he rfl, row_blk hp, fun h => (by cases h), hb, fun _ => h2⟩
    · obtain rfl : (j, y) = x := by simpa using hi
      exact ⟨some ⟨gq, 0, none⟩, cq, by rw [hy]; exact blk_cell he rfl, row_blk hq, fun h => (by cases h), hc, fun _ => h3⟩
    · simp at hi
  · simp only [List.mem_cons, List.not_mem_nil, or_false] at hx
    rcases hx with rfl | rfl
    · exact ⟨hk.1, hk.2, by rw [hz]; decide⟩
    · exact ⟨hj.1, hj.2, by rw [hy]; decide⟩
theorem ents_short {w : World} {N : Nat → Prop} {ge t : Nat} {k : Int} {o1 : Nat × Nat} (he : w.heap[ge]? = some (.cells #[.int .i64 k, .slice none 0 0] t o1)) (hk : -9223372036854775808 ≤ k ∧ k ≤ 9223372036854775807) (h1 : ¬ N ge) : EntsAt w N (some ⟨ge, 0, none⟩) 1 [(k, [])] := by
  refine ⟨rfl, fun _ => rfl, fun i x hi => ?_, fun i x hi => ?_, fun x hx => ?_, fun _ => h1⟩
  · rcases i with _ | i
    · obtain rfl : (k, []) = x := by simpa using hi
      exact blk_cell he rfl
    · simp at hi
  · rcases i with _ | i
    · obtain rfl : (k, []) = x := by simpa using hi
      exact ⟨none, 0, blk_cell he rfl, Row.nil _ _, fun _ => ⟨rfl, rfl⟩, (fun n hn => by cases hn), fun h => by simp at h⟩
    · simp at hi
  · obtain rfl : x = (k, []) := by simpa using hx
    exact ⟨hk.1, hk.2, by simp⟩
theorem EntsAt.first {w : World} {N : Nat → Prop} {a : Option Addr} {n : Nat} {x : Ent} {l : List Ent} (h : EntsAt w N a n (x :: l)) : EntsAt w N a 1 [x] := by
  have hn : 0 < n := by have := h.len; simp at this; omega
  have g : ∀ (i : Nat) y, [x][i]? = some y → (x :: l)[i]? = some y := fun i y hi => by
    rcases i with _ | i
    · simpa using hi
    · simp at hi
  refine ⟨rfl, fun _ => h.nn hn, fun i y hi => h.c0 i y (g i y hi), fun i y hi => h.c1 i y (g i y hi), fun y hy => h.bd y ?_, fun _ => h.hd hn⟩
  obtain rfl : y = x := by simpa using hy
  exact List.mem_cons_self ..

/-- a ledger that is lost -/
structure Down (w : World) (M : Dom) (B : Nat → Prop) (d l mb H : Nat) (s : DS) (L : LS) : Prop where
  sys : Sys w M B d l mb s L
  ok : L.Ok s
  lost : L.lost = true
  up : s.up.length ≤ 20000
  hh : L.H s = H
/-- a break behind one turn -/
theorem breakU {w : World} {M : Dom} {B : Nat → Prop} {d l mb n : Nat} {lv : Int} {N : Nat} {V : Nat → List Int} {s : DS} {L : LS} (h : Live w M B d l mb n lv N V s L) :
    Calls Try.prog 25 #[.pointer (some ⟨d, 0, none⟩), .int .i64 1] w fun e w' => e = .returned (.tuple #[]) ∧ ∃ M', Sys w' M' B d l mb (s.brk 1) L ∧ LStep M B w M' B w' := by
  refine (break_any h.sys.drum 1).mono ?_
  rintro e w' ⟨rfl, M', D, S⟩
  exact ⟨rfl, M', h.sys.step D S, LStep.of_step S⟩
theorem write_down {L : LS} {s : DS} {P : List (List Ent)} (f : Full L s P) {k : Int} {z : List Int} (hk : 0 ≤ k ∧ k < L.H s) (hz : z.length = 96) (hb : IsBytes z) (hu : L.used = 0) : ∃ L' s', L.write (s.brk 1) [(k, z)] = (4, L', s') ∧ L'.lost = true := by
  have hl := f.g.ok.l
  have hH : L.H (s.brk 1) = L.H s := rfl
  have hm := mayE_one (H := L.H s) hk hz
  have h2 : leavesN ([(k, z)] : List Ent).length = 2 := (by decide : leavesN ((1 : Nat) : Int) = 2)
  have he : PostOk [(k, z)] (L.H s) := ⟨hm, by have := f.g.ok.n1; unfold LS.H; omega, by show 1 ≤ 600; omega⟩
  have hst := post_stale he (r := L.round) ⟨by have := f.g.r; omega, by have := f.g.r; omega⟩ (L.last + 1)
  have hp2 : (postL L.round (L.last + 1) [(k, z)]).length = 2 := by rw [postL_len]; unfold postN; rw [h2]; rfl
  obtain ⟨y1, y2, hy⟩ : ∃ y1 y2, postL L.round (L.last + 1) [(k, z)] = [y1, y2] := by
    generalize postL L.round (L.last + 1) [(k, z)] = l at hp2
    match l, hp2 with
    | [a, b], _ => exact ⟨a, b, rfl⟩
  rw [hy] at hst
  have l1 := (hst y1 (by simp)).2
  have l2 := (hst y2 (by simp)).2
  have hll : L.leafLays [(k, z)] = [(2, y1), (3, y2)] := by
    unfold LS.leafLays
    rw [hy, hu]
    rfl
  have hup := f.g.up
  have hf1 : (s.brk 1).fits 2 y1 = true := by unfold DS.fits; simp; exact ⟨by show (2 : Int) < (s.n : Int); omega, l1⟩
  have hg1 : (s.brk 1).goes = true := by
    unfold DS.goes DS.turn DS.brk
    simp only [show (if (0 : Int) ≤ 1 then some (clip 1) else none) = some 1 from by decide]
    rw [hup.broken]
    rfl
  have hs1 : (s.brk 1).lay 2 y1 = (s.brk 1).turn.laid 2 y1 := by unfold DS.lay; rw [hf1, hg1]; rfl
  have hc1 : (s.brk 1).layCode 2 y1 = 0 := by unfold DS.layCode DS.code; rw [hf1, hg1]; rfl
  obtain ⟨s1, hs1e⟩ : ∃ s1, (s.brk 1).lay 2 y1 = s1 := ⟨_, rfl⟩
  have hfz : s1.fuse = some 0 ∧ s1.n = s.n := by
    rw [← hs1e, hs1]
    unfold DS.turn DS.brk DS.laid
    simp only [show (if (0 : Int) ≤ 1 then some (clip 1) else none) = some 1 from by decide]
    rw [hup.broken]
    exact ⟨rfl, rfl⟩
  have hf2 : s1.fits 3 y2 = true := by unfold DS.fits; simp; exact ⟨by rw [hfz.2]; omega, l2⟩
  have hc2 : s1.layCode 3 y2 = 4 := by
    unfold DS.layCode DS.code DS.goes DS.turn
    rw [hf2, hfz.1]
    rfl
  have hlays : (s.brk 1).lays [(2, y1), (3, y2)] = (4, s1.lay 3 y2) := by
    show (if (s.brk 1).layCode 2 y1 = 0 then ((s.brk 1).lay 2 y1).lays [(3, y2)] else _) = _
    rw [if_pos hc1, hs1e]
    show (if s1.layCode 3 y2 = 0 then _ else (s1.layCode 3 y2, s1.lay 3 y2)) = _
    rw [hc2, if_neg (by decide)]
  unfold LS.write
  rw [hH, if_pos hm, f.lost, if_neg (by simp), h2, if_neg (by omega), if_neg (by omega)]
  unfold LS.layEnds LS.lay
  rw [hll, hlays, if_neg (show ¬ ((4 : Int) = 0) by decide)]
  refine ⟨_, _, rfl, ?_⟩
  show (_ || decide ((4 : Int) = 4)) = true
  simp
theorem writeDown {w : World} {M : Dom} {B : Nat → Prop} {d l mb n : Nat} {lv : Int} {N : Nat} {s : DS} {L : LS} {P : List (List Ent)} (h : Sys w M B d l mb (s.brk 1) L) (f : Full L s P) (hlv : L.leaves = lv) (hn : s.n = n) (hN : N ≤ 1000) (hup : s.up.length ≤ 10000) (hr : L.round ≤ 2 + N) (hla : L.last ≤ N) (hu : L.used = 0) (k : Int) (z : List Int) (ea : Option Addr) (cap : Nat) (hE : EntsAt w (inD M) ea 1 [(k, z)]) (hk : 0 ≤ k ∧ k < homes n lv) (hz : z.length = 96) (hb : IsBytes z) :
    Calls Try.prog 17 #[.pointer (some ⟨l, 0, none⟩), .slice ea 1 cap] w fun e w' => e = .returned (.int .i64 4) ∧ ∃ M' B' mb' s' L', LStep M B w M' B' w' ∧ Down w' M' B' d l mb' (homes n lv) s' L' := by
  have okb : L.Ok (s.brk 1) := f.g.ok.to rfl rfl f.g.ok.r f.g.ok.u f.g.ok.k (.inl rfl)
  have hbz : ∀ x ∈ [(k, z)], IsBytes x.2 := fun x hx => by
    obtain rfl : x = (k, z) := by simpa using hx
    exact hb
  have hH : L.H s = homes n lv := by unfold LS.H homes; rw [hn, hlv]
  refine (write_any h okb (by omega) (by show s.up.length < _; omega) ea 1 cap _ hE (by omega)).mono ?_
  have kp := LS.write_keep (el := [(k, z)]) okb hbz (by omega) (by omega)
  obtain ⟨L', s', e1, e2⟩ := write_down f (by rw [hH]; exact hk) hz hb hu
  rintro e w' ⟨rfl, M', B', mb', SY, LT⟩
  have ok2 := kp.ok
  have up2 := kp.up
  have kn2 := kp.n
  have kl2 := kp.leaves
  rw [e1] at SY ok2 up2 kn2 kl2 ⊢
  exact ⟨rfl, M', B', mb', s', L', LT, SY, ok2, e2, by
    have h3 : s'.up.length ≤ s.up.length + 9000 := up2
    omega, by
    have h4 : s'.n = (s.brk 1).n := kn2
    have h5 : L'.leaves = L.leaves := kl2
    unfold LS.H homes; rw [h4, h5, hlv]; show (((s.n : Nat) : Int) - _).toNat = _; rw [hn]⟩
theorem fallDown {w : World} {M : Dom} {B : Nat → Prop} {d l mb H : Nat} {s : DS} {L : LS} (h : Down w M B d l mb H s L) :
    Calls Try.prog 20 #[.pointer (some ⟨d, 0, none⟩), .slice none 0 0, .int .i64 (-1), .int .i64 0] w fun e w' => e = .returned (.tuple #[]) ∧ ∃ M' s', LStep M B w M' B w' ∧ Down w' M' B d l mb H s' L := by
  refine (fall_any h.sys.drum none 0 0 [] (-1) 0 (IntsAt.none _) (fun h => by omega)).mono ?_
  rintro e w' ⟨rfl, M', D, S⟩
  exact ⟨rfl, M', _, LStep.of_step S, h.sys.step D S, h.ok.to rfl rfl h.ok.r h.ok.u h.ok.k (.inl rfl), h.lost, Nat.zero_le _, h.hh⟩
theorem lookDown {w : World} {M : Dom} {B : Nat → Prop} {d l mb H : Nat} {s : DS} {L : LS} (h : Down w M B d l mb H s L) (k : Int) (hk : 0 ≤ k ∧ k < H ∧ k ≤ 1000000) :
    Calls Try.prog 18 #[.pointer (some ⟨l, 0, none⟩), .int .i64 k] w fun e w' => ∃ v, e = .returned (.tuple #[v, .int .i64 4]) ∧ Down w' M B d l mb H s L ∧ LStep M B w M B w' := by
  have e1 : L.lookC s k = 4 := by unfold LS.lookC; rw [h.hh, if_pos ⟨hk.1, hk.2.1⟩, h.lost]; rfl
  have e2 : L.lookL s k = L := by unfold LS.lookL; rw [if_neg]; rintro ⟨-, -, hx, -⟩; rw [h.lost] at hx; cases hx
  refine (lookL_any h.sys h.ok k ⟨by omega, hk.2.2⟩).mono ?_
  rintro e w' ⟨a, m, c, rfl, -, -, SY, LT⟩
  rw [e2] at SY
  rw [e1]
  exact ⟨_, rfl, ⟨SY, h.ok, h.lost, h.up, h.hh⟩, LT⟩
theorem lostDown {w : World} {M : Dom} {B : Nat → Prop} {d l mb H : Nat} {s : DS} {L : LS} (h : Down w M B d l mb H s L) :
    Calls Try.prog 26 #[.pointer (some ⟨l, 0, none⟩)] w fun e w' => e = .returned (.bool true) ∧ w = w' := by
  have := lost_any h.sys
  rwa [h.lost] at this
theorem settleDown {w : World} {M : Dom} {B : Nat → Prop} {d l mb H : Nat} {s : DS} {L : LS} (h : Down w M B d l mb H s L) :
    Calls Try.prog 12 #[.pointer (some ⟨l, 0, none⟩)] w fun e w' => e = .returned (.int .i64 4) ∧ ∃ M' B' mb', LStep M B w M' B' w' ∧ Down w' M' B' d l mb' H s L := by
  have e1 : L.settle s = (4, L, s) := by unfold LS.settle; rw [h.lost]; rfl
  refine (lsettle_any h.sys).mono ?_
  rintro e w' ⟨rfl, M', B', mb', SY, LT⟩
  rw [e1] at SY ⊢
  exact ⟨rfl, M', B', mb', LT, SY, h.ok, h.lost, h.up, h.hh⟩
theorem balanceDown {w : World} {M : Dom} {B : Nat → Prop} {d l mb H : Nat} {s : DS} {L : LS} (h : Down w M B d l mb H s L) :
    Calls Try.prog 13 #[.pointer (some ⟨l, 0, none⟩)] w fun e w' => e = .returned (.int .i64 4) ∧ ∃ M' B' mb', LStep M B w M' B' w' ∧ Down w' M' B' d l mb' H s L := by
  have e1 : L.settle s = (4, L, s) := by unfold LS.settle; rw [h.lost]; rfl
  have e2 : L.balance s = (4, L, s) := by unfold LS.balance; rw [e1, if_neg (show ¬ ((4 : Int) = 0) by decide)]
  have hu := h.up
  refine (balance_any h.sys h.ok (by omega)).mono ?_
  rintro e w' ⟨rfl, M', B', mb', SY, LT⟩
  rw [e2] at SY ⊢
  exact ⟨rfl, M', B', mb', LT, SY, h.ok, h.lost, h.up, h.hh⟩
/-- a look past the home tracks -/
theorem lookFar {w : World} {M : Dom} {B : Nat → Prop} {d l mb n : Nat} {lv : Int} {N : Nat} {V : Nat → List Int} {s : DS} {L : LS} (h : Live w M B d l mb n lv N V s L) (k : Int) (hk : (homes n lv : Int) ≤ k ∧ k ≤ 1000000) :
    Calls Try.prog 18 #[.pointer (some ⟨l, 0, none⟩), .int .i64 k] w fun e w' => ∃ v, e = .returned (.tuple #[v, .int .i64 1]) ∧ Live w' M B d l mb n lv N V s L ∧ LStep M B w M B w' := by
  have hH := h.H
  have e1 : L.lookC s k = 1 := by unfold LS.lookC; rw [if_neg (by rw [hH]; omega)]
  have e2 : L.lookL s k = L := by unfold LS.lookL; rw [if_neg (by rw [hH]; omega)]
  refine (lookL_any h.sys h.ok k ⟨by omega, hk.2⟩).mono ?_
  rintro e w' ⟨a, m, c, rfl, -, -, SY, LT⟩
  rw [e2] at SY
  rw [e1]
  exact ⟨_, rfl, ⟨SY, h.full, h.n, h.leaves, h.up, h.round, h.last, h.v⟩, LT⟩

end Go.Proofs.Ytddcggdbnhmoiaa
