import Derived.Test.YtddcggdbnhmoiaaGreatGoodD
/- the laws' pages -/
open Go Go.RowKit
namespace Go.Proofs.YtddcggdbnhmoiaaGreat

/-- byte i of page c -/
def pageB (c : Int) (i : Nat) : Int := (c / 2 ^ (i % 3 * 8) + (i : Int) % 3) % 256
def pageE (c : Int) : List Int := (List.range 96).map (pageB c)
theorem pageE_length (c : Int) : (pageE c).length = 96 := by simp [pageE]
theorem pageE_bytes (c : Int) : IsBytes (pageE c) := fun x hx => by
  obtain ⟨i, -, rfl⟩ := List.mem_map.1 hx
  unfold pageB
  omega

theorem page_any (c : Int) (w : World) :
    Calls Tryz.prog 47 #[.int .i64 c] w fun e w' => ∃ g, e = .returned (.slice (some ⟨g, 0, none⟩) 96 96) ∧ w'.heap[g]? = some (.cells (B8 (pageE c)).toArray 5 (0, 0)) ∧ w.heap.size ≤ g ∧ Below w.heap.size w w' := by
  have m2 := fun W => mkU (n := 96) (by omega) W
  simp only [show ((96 : Nat) : Int) = 96 from rfl] at m2
  go_enter Tryz.func47, Tryz.ntmps47
  go_wp2_with fail
  obtain ⟨g, hg⟩ : ∃ g, w.heap.size = g := ⟨_, rfl⟩
  rw [hg]
  go_loopw [8] (fun v wr => ∃ i : Nat, v = .int .i64 i ∧ i ≤ 96 ∧ wr.heap[g]? = some (.cells (B8 ((List.range i).map (pageB c) ++ List.replicate (96 - i) 0)).toArray 5 (0, 0)) ∧ Below g w wr) (fun v _ => 96 - (Go.RowKit.intOf v).toNat)
  case atStart => exact ⟨0, rfl, by omega, blk_at _ hg.symm, (Below.refl _ _).alloc (by omega) _⟩
  case round =>
    obtain ⟨i, rfl, hi, hb, B⟩ := hrel
    by_cases h : i < 96
    · have fz := fun o => blk_free (o := o) hb
      have lg := lt_of_blk hb
      have hset : ((B8 ((List.range i).map (pageB c) ++ List.replicate (96 - i) 0)).toArray.setIfInBounds i (.int .u8 ((c / 2 ^ (i % 3 * 8) + (i : Int) % 3) % 256))) = (B8 ((List.range (i + 1)).map (pageB c) ++ List.replicate (96 - (i + 1)) 0)).toArray := by
        rw [show 96 - i = (96 - (i + 1)) + 1 by omega, List.replicate_succ (n := 96 - (i + 1)), List.range_succ]
        simp [B8, pageB]
      have HS := hid hset
      have c0 : wr.cell? ⟨g, i, none⟩ = some (.int .u8 0) := blk_cell hb (by
        simp only [B8, List.getElem?_toArray, List.map_append, List.map_replicate]
        rw [List.getElem?_append_right (by simp)]
        simp [List.getElem?_replicate]
        omega)
      clear hset
      go_wp2_with fail
      go_roundw
      case measure => simp [Go.RowKit.intOf]; omega
      case rel => exact ⟨i + 1, by go_num, by omega, by rw [blk_setCell hb, HS.out], Below.setCell B (Nat.le_refl _) _⟩
    · obtain rfl : i = 96 := by omega
      go_wp2_with fail
      go_ret
      exact ⟨g, rfl, by simpa [pageE] using hb, Nat.le_of_eq hg, hg ▸ B⟩

end Go.Proofs.YtddcggdbnhmoiaaGreat

/- the laws' ledger on a drum of its own -/
open Go Go.RowKit
namespace Go.Proofs.YtddcggdbnhmoiaaGreat

/-- what found answers -/
structure Begun (w : World) (w' : World) (M : Dom) (B : Nat → Prop) (d l mb n : Nat) (lv : Int) (s : DS) (L : LS) : Prop where
  sys : Sys w' M B d l mb s L
  full : Full L s []
  leaves : L.leaves = lv
  round : L.round = 2
  n : s.n = n
  kept : s.kept = s.now
  up : s.up = []
  view : ∀ k, k < L.H s → Go.Proofs.YtddcggdbnhmoiaaGreat.view L s k = zeros96
  new : ∀ q, M.M q ∨ B q → w.heap.size ≤ q
  below : Below w.heap.size w w'

theorem DrumAt.ns {w : World} {M : Dom} {d : Nat} {s : DS} (h : DrumAt w M d s) : d < w.heap.size := h.n0

theorem found5_any (n : Nat) (lv : Int) (w : World) (h1 : 10 ≤ n) (h2 : n ≤ 4096) (hm : mayC 1 lv n = true) :
    Calls Tryz.prog 28 #[.int .i64 (n : Int), .int .i64 lv] w fun e w' => ∃ M B d l mb s L, e = .returned (.tuple #[.pointer (some ⟨l, 0, none⟩), .pointer (some ⟨d, 0, none⟩)]) ∧ Begun w w' M B d l mb n lv s L := by
  obtain ⟨s1, s2, L, hf, ho, F, hl, hr, n1, n2, hk, hu, hu1, hv⟩ := found_up h2 hm
  have hlv : -1000000000 ≤ lv ∧ lv ≤ 1000000000 := by unfold mayC at hm; simp at hm; omega
  have HF := hid hf
  have HO := hid ho
  have FF := hid F
  have HL := hid hl
  have HR := hid hr
  have N1 := hid n1
  have N2 := hid n2
  have HK := hid hk
  have HU := hid hu
  have HU1 := hid hu1
  have HV := hid hv
  have HM := hid hm
  clear hf ho F hl hr n1 n2 hk hu hu1 hv hm
  go_enter Tryz.func28, Tryz.ntmps28
  go_wp2_with fail
  refine (newn_any n w h1 h2).mono ?_
  rintro e w1 ⟨d, M, rfl, D1, hM, B1⟩
  go_wp2_with fail
  refine (found_any D1 lv hlv (by show (0 : Nat) < 500000000; omega)).mono ?_
  rintro e w2 ⟨rfl, M2, D2, S2⟩
  rw [HF.out] at D2 ⊢
  go_wp2_with fail
  refine (open_any D2 (by have := N1.out; omega) (by have := N1.out; omega) (by have := HU1.out; rw [this]; decide)).mono ?_
  rintro e w3 (⟨-, M3, B3, l, mb, rfl, SY, LS3⟩ | ⟨h, -⟩)
  · rw [HO.out] at SY
    go_wp2_with fail
    go_ret2
    obtain ⟨b2, m2⟩ := Step.below B1 S2 hM B1.size
    have hz := HF.out
    refine ⟨M3, B3, d, l, mb, s2, L, rfl, SY, FF.out, HL.out, HR.out, N2.out, HK.out, HU.out, HV.out, fun q hq => ?_, ?_⟩
    · have := S2.ext.size
      rcases hq with hq | hq
      · exact (LS3.new q hq).elim (m2 q) (fun h => Nat.le_trans b2.size h)
      · exact (LS3.newB q hq).elim (fun h => h.elim) (fun h => Nat.le_trans b2.size h)
    · exact Below.ext b2 LS3.ext (fun q hq => hq.elim (m2 q) (fun h => h.elim)) b2.size
  · rw [HO.out] at h
    exact absurd rfl h

end Go.Proofs.YtddcggdbnhmoiaaGreat

/- a ledger on a drum that goes: its calls as the laws want them -/
open Go Go.RowKit
namespace Go.Proofs.YtddcggdbnhmoiaaGreat

/-- a ledger that goes: N acts behind its beginning; V its home tracks -/
structure Live (w : World) (M : Dom) (B : Nat → Prop) (d l mb n : Nat) (lv : Int) (N : Nat) (V : Nat → List Int) (s : DS) (L : LS) : Prop where
  sys : Sys w M B d l mb s L
  full : ∃ P, Full L s P
  n : s.n = n
  leaves : L.leaves = lv
  up : s.up.length ≤ 10000 * N
  round : L.round ≤ 2 + N
  last : L.last ≤ N
  v : ∀ k, k < L.H s → view L s k = V k
/-- the same, and all of it is settled -/
structure Quiet (s : DS) : Prop where
  kept : s.kept = s.now
  up : s.up = []

def homes (n : Nat) (lv : Int) : Nat := ((n : Int) - (2 + lv)).toNat
theorem Live.H {w : World} {M : Dom} {B : Nat → Prop} {d l mb n : Nat} {lv : Int} {N : Nat} {V : Nat → List Int} {s : DS} {L : LS} (h : Live w M B d l mb n lv N V s L) : L.H s = homes n lv := by
  unfold LS.H homes
  rw [h.n, h.leaves]
theorem Live.ok {w : World} {M : Dom} {B : Nat → Prop} {d l mb n : Nat} {lv : Int} {N : Nat} {V : Nat → List Int} {s : DS} {L : LS} (h : Live w M B d l mb n lv N V s L) : L.Ok s := by
  obtain ⟨P, f⟩ := h.full
  exact f.g.ok
theorem Live.below {w w' : World} {M : Dom} {B : Nat → Prop} {d l mb n : Nat} {lv : Int} {N : Nat} {V : Nat → List Int} {s : DS} {L : LS} (h : Live w M B d l mb n lv N V s L) (k : Below w.heap.size w w') : Live w' M B d l mb n lv N V s L :=
  ⟨h.sys.below k, h.full, h.n, h.leaves, h.up, h.round, h.last, h.v⟩
theorem Live.le {w : World} {M : Dom} {B : Nat → Prop} {d l mb n : Nat} {lv : Int} {N N' : Nat} {V : Nat → List Int} {s : DS} {L : LS} (h : Live w M B d l mb n lv N V s L) (hN : N ≤ N') : Live w M B d l mb n lv N' V s L :=
  ⟨h.sys, h.full, h.n, h.leaves, by have := h.up; omega, by have := h.round; omega, by have := h.last; omega, h.v⟩
theorem Live.wf {w : World} {M : Dom} {B : Nat → Prop} {d l mb n : Nat} {lv : Int} {N : Nat} {V : Nat → List Int} {s : DS} {L : LS} (h : Live w M B d l mb n lv N V s L) {k : Nat} (hk : k < homes n lv) : (V k).length = 96 ∧ IsBytes (V k) := by
  obtain ⟨P, f⟩ := h.full
  have hk2 : k < L.H s := by rw [h.H]; exact hk
  have := view_wf f.g.ok f.g.wf hk2
  rwa [h.v k hk2] at this
theorem Begun.live {w w' : World} {M : Dom} {B : Nat → Prop} {d l mb n : Nat} {lv : Int} {s : DS} {L : LS} (h : Begun w w' M B d l mb n lv s L) : Live w' M B d l mb n lv 0 (fun _ => zeros96) s L :=
  ⟨h.sys, ⟨[], h.full⟩, h.n, h.leaves, by rw [h.up]; exact Nat.le_refl _, by rw [h.round]; exact Int.le_refl _, by rw [h.full.last]; exact Int.le_refl _, h.view⟩

def WriteU (w : World) (M : Dom) (B : Nat → Prop) (d l n : Nat) (lv : Int) (N : Nat) (V : Nat → List Int) (el : List Ent) (e : Ending) (w' : World) : Prop :=
  ∃ M' B' mb' s' L', LStep M B w M' B' w' ∧ (((mayE el (homes n lv) = false ∧ e = .returned (.int .i64 1) ∧ Live w' M' B' d l mb' n lv (N + 1) V s' L')) ∨ (mayE el (homes n lv) = true ∧ leavesN el.length > lv ∧ e = .returned (.int .i64 5) ∧ Live w' M' B' d l mb' n lv (N + 1) V s' L') ∨
    (mayE el (homes n lv) = true ∧ leavesN el.length ≤ lv ∧ e = .returned (.int .i64 0) ∧ Live w' M' B' d l mb' n lv (N + 1) (fun k => over el k (V k)) s' L'))
theorem writeU {w : World} {M : Dom} {B : Nat → Prop} {d l mb n : Nat} {lv : Int} {N : Nat} {V : Nat → List Int} {s : DS} {L : LS} (h : Live w M B d l mb n lv N V s L) (hN : N ≤ 1000) (ea : Option Addr) (en cap : Nat) (el : List Ent) (hE : EntsAt w (inD M) ea en el) (hn : en ≤ 600) (hb : ∀ x ∈ el, IsBytes x.2) :
    Calls Tryz.prog 33 #[.pointer (some ⟨l, 0, none⟩), .slice ea en cap] w (WriteU w M B d l n lv N V el) := by
  obtain ⟨P, f⟩ := h.full
  have hr := h.round
  have hl := h.last
  have hu := h.up
  have hv := h.v
  have hH := h.H
  refine (write_any h.sys f.g.ok (by omega) (by omega) ea en cap el hE (by omega)).mono ?_
  rintro e w' ⟨rfl, M', B', mb', SY, LT⟩
  have kp := LS.write_keep f.g.ok hb (by omega) (by omega)
  refine ⟨M', B', mb', (L.write s el).2.2, (L.write s el).2.1, LT, ?_⟩
  have key := f.write (by rw [hE.len]; exact hn) hb (by omega) (by omega)
  rw [hH] at key
  rw [hH] at hv
  rcases key with ⟨h1, h2⟩ | ⟨h1, h2, h3⟩ | ⟨h1, h2, L', s', P', h3, h4, h5, h6, h7, h8, h9⟩
  · rw [h2] at SY ⊢
    exact .inl ⟨h1, rfl, (⟨SY, ⟨P, f⟩, h.n, h.leaves, hu, hr, hl, h.v⟩ : Live w' M' B' d l mb' n lv N V s L).le (by omega)⟩
  · rw [h3] at SY ⊢
    exact .inr (.inl ⟨h1, by rw [h.leaves] at h2; exact h2, rfl, (⟨SY, ⟨P, f⟩, h.n, h.leaves, hu, hr, hl, h.v⟩ : Live w' M' B' d l mb' n lv N V s L).le (by omega)⟩)
  · have ku := kp.up
    rw [h3] at SY ku ⊢
    simp only at ku
    refine .inr (.inr ⟨h1, by rw [h.leaves] at h2; exact h2, rfl, SY, ⟨P', h4⟩, h6.trans h.n, h5.trans h.leaves, by show s'.up.length ≤ _; omega, by show L'.round ≤ _; omega, by show L'.last ≤ _; omega, fun k hk => ?_⟩)
    have e1 : L'.H s' = homes n lv := by unfold LS.H homes; rw [h6, h.n, h5, h.leaves]
    have hk2 : k < homes n lv := by rw [← e1]; exact hk
    show view L' s' k = _
    rw [h9 k hk2, hv k hk2]

theorem settleU {w : World} {M : Dom} {B : Nat → Prop} {d l mb n : Nat} {lv : Int} {N : Nat} {V : Nat → List Int} {s : DS} {L : LS} (h : Live w M B d l mb n lv N V s L) :
    Calls Tryz.prog 30 #[.pointer (some ⟨l, 0, none⟩)] w fun e w' => e = .returned (.int .i64 0) ∧ ∃ M' B' mb' s', LStep M B w M' B' w' ∧ Live w' M' B' d l mb' n lv N V s' L ∧ Quiet s' := by
  obtain ⟨P, f⟩ := h.full
  refine (lsettle_any h.sys).mono ?_
  obtain ⟨h1, h2⟩ := f.settle
  rintro e w' ⟨rfl, M', B', mb', SY, LT⟩
  rw [h1] at SY ⊢
  exact ⟨rfl, M', B', mb', _, LT, ⟨SY, ⟨P, h2⟩, h.n, h.leaves, Nat.zero_le _, h.round, h.last, h.v⟩, rfl, rfl⟩

theorem balanceU {w : World} {M : Dom} {B : Nat → Prop} {d l mb n : Nat} {lv : Int} {N : Nat} {V : Nat → List Int} {s : DS} {L : LS} (h : Live w M B d l mb n lv N V s L) (hN : N ≤ 1000) :
    Calls Tryz.prog 31 #[.pointer (some ⟨l, 0, none⟩)] w fun e w' => e = .returned (.int .i64 0) ∧ ∃ M' B' mb' s' L', LStep M B w M' B' w' ∧ Live w' M' B' d l mb' n lv (N + 1) V s' L' ∧ Quiet s' ∧ L'.used = 0 := by
  obtain ⟨P, f⟩ := h.full
  have hr := h.round
  have hu := h.up
  have hl := h.last
  refine (balance_any h.sys f.g.ok (by omega)).mono ?_
  obtain ⟨s', h1, h2, h3, h4, h5, h6⟩ := f.balance (by omega)
  rintro e w' ⟨rfl, M', B', mb', SY, LT⟩
  rw [h1] at SY ⊢
  have e1 : L.next.H s' = L.H s := by unfold LS.H; rw [h3]; rfl
  exact ⟨rfl, M', B', mb', _, _, LT, ⟨SY, ⟨[], h2⟩, h3.trans h.n, h.leaves, by show s'.up.length ≤ _; rw [h5]; exact Nat.zero_le _, by show L.round + 1 ≤ _; omega, by show (0 : Int) ≤ _; omega, fun k hk => by
    have hk2 : k < L.H s := by rw [← e1]; exact hk
    show view L.next s' k = _
    rw [h6 k hk2, h.v k hk2]⟩, ⟨h4, h5⟩, rfl⟩

/-- opened where a ledger stands that goes (the old one may be forgotten) -/
theorem openU {w : World} {M : Dom} {d n : Nat} {lv : Int} {N : Nat} {V : Nat → List Int} {s : DS} {L : LS} {P : List (List Ent)} (hd : DrumAt w M d s) (g : Good L s P) (hlo : L.lost = false) (hn : s.n = n) (hlv : L.leaves = lv) (hu : s.up.length ≤ 10000 * N) (hr : L.round ≤ 2 + N) (hv : ∀ k, k < L.H s → view L s k = V k) (hN : N ≤ 1000) :
    Calls Tryz.prog 23 #[.pointer (some ⟨d, 0, none⟩)] w fun e w' => ∃ M' B' l' mb' s' L', e = .returned (.tuple #[.pointer (some ⟨l', 0, none⟩), .int .i64 0]) ∧ LStep M none' w M' B' w' ∧ Live w' M' B' d l' mb' n lv (N + 1) V s' L' ∧ Quiet s' ∧ L'.used = 0 := by
  have hl := g.ok.l
  refine (open_any hd (by omega) g.ok.n1 (by omega)).mono ?_
  obtain ⟨s', h1, h2, h3, h4, h5, h6⟩ := g.openL hlo (by omega)
  rintro e w' (⟨-, M', B', l', mb', rfl, SY, LT⟩ | ⟨h, -⟩)
  · rw [h1] at SY
    have e1 : L.next.H s' = L.H s := by unfold LS.H; rw [h3]; rfl
    exact ⟨M', B', l', mb', _, _, rfl, LT, ⟨SY, ⟨[], h2⟩, h3.trans hn, hlv, by show s'.up.length ≤ _; rw [h5]; exact Nat.zero_le _, by show L.round + 1 ≤ _; omega, by show (0 : Int) ≤ _; omega, fun k hk => by
      have hk2 : k < L.H s := by rw [← e1]; exact hk
      show view L.next s' k = _
      rw [h6 k hk2, hv k hk2]⟩, ⟨h4, h5⟩, rfl⟩
  · rw [h1] at h
    exact absurd rfl h

theorem lookU {w : World} {M : Dom} {B : Nat → Prop} {d l mb n : Nat} {lv : Int} {N : Nat} {V : Nat → List Int} {s : DS} {L : LS} (h : Live w M B d l mb n lv N V s L) (k : Nat) (hk : k < homes n lv) :
    Calls Tryz.prog 44 #[.pointer (some ⟨l, 0, none⟩), .int .i64 (k : Int)] w fun e w' => ∃ a c, e = .returned (.tuple #[.slice (some a) 96 c, .int .i64 0]) ∧ w'.ownsRow w.heap.size 5 1 (.slice (some a) 96 c) 96 (B8 (V k)) ∧ (V k).length = 96 ∧ IsBytes (V k) ∧ Live w' M B d l mb n lv N V s L ∧ LStep M B w M B w' := by
  obtain ⟨P, f⟩ := h.full
  obtain ⟨h96, hby⟩ := h.wf hk
  have hl := f.g.ok.l
  have hn1 := f.g.ok.n1
  have hk2 : k < L.H s := by rw [h.H]; exact hk
  have hlo := f.lost
  have hbr := f.g.up.broken
  have e1 : L.lookC s k = 0 := by unfold LS.lookC; rw [if_pos ⟨by omega, by omega⟩, hlo, hbr]; simp
  have e2 : L.lookZ s k = V k := by
    rw [← h.v k hk2]
    unfold LS.lookZ view
    rw [if_pos e1]
    cases hh : L.taken k with
    | some z => rfl
    | none => show s.now _ = _; congr 1; omega
  have e3 : L.lookL s k = L := by unfold LS.lookL; rw [if_neg]; rintro ⟨-, -, -, -, hx⟩; rw [hbr] at hx; cases hx
  refine (lookL_any h.sys f.g.ok k (by have := h.n; have := h.leaves; unfold homes at hk; omega)).mono ?_
  rintro e w' ⟨a, m, c, rfl, ho, hb, SY, LT⟩
  rw [e2] at ho
  rw [e3] at SY
  rw [e1]
  obtain rfl : m = 96 := by have := ho.1; rw [B8_length] at this; omega
  obtain ⟨g, c', e5, -⟩ := owns_some ho (by omega)
  cases e5
  exact ⟨⟨g, 0, none⟩, c, rfl, ho, h96, hby, ⟨SY, ⟨P, f⟩, h.n, h.leaves, h.up, h.round, h.last, h.v⟩, LT⟩
theorem homeU {w : World} {M : Dom} {B : Nat → Prop} {d l mb n : Nat} {lv : Int} {N : Nat} {V : Nat → List Int} {s : DS} {L : LS} (h : Live w M B d l mb n lv N V s L) :
    Calls Tryz.prog 25 #[.pointer (some ⟨l, 0, none⟩)] w fun e w' => e = .returned (.int .i64 ((homes n lv : Nat) : Int)) ∧ w = w' := by
  have := home_any h.sys h.ok.lv
  rwa [h.H] at this
theorem blankU {w : World} {M : Dom} {B : Nat → Prop} {d l mb n : Nat} {lv : Int} {N : Nat} {V : Nat → List Int} {s : DS} {L : LS} (h : Live w M B d l mb n lv N V s L) :
    Calls Tryz.prog 26 #[.pointer (some ⟨l, 0, none⟩)] w fun e w' => e = .returned (.int .i64 (lv - L.used)) ∧ Below w.heap.size w w' := by
  have := blank_any h.sys h.ok
  rwa [h.leaves] at this
/-- a fall of what is settled -/
theorem fallU {w : World} {M : Dom} {B : Nat → Prop} {d l mb n : Nat} {lv : Int} {N : Nat} {V : Nat → List Int} {s : DS} {L : LS} (h : Live w M B d l mb n lv N V s L) (q : Quiet s) (ka : Option Addr) (kl kc : Nat) (keep : List Int) (torn cut : Int) (hK : IntsAt w ka kl kc keep) (hKM : 0 < kl → ¬ M (sB ka)) :
    Calls Tryz.prog 35 #[.pointer (some ⟨d, 0, none⟩), .slice ka kl kc, .int .i64 torn, .int .i64 cut] w fun e w' => e = .returned (.tuple #[]) ∧ ∃ M' s', DrumAt w' M' d s' ∧ Step M w M' w' ∧ (∃ P, Good L s' P) ∧ s'.n = n ∧ L.lost = false ∧ L.leaves = lv ∧ s'.up.length ≤ 10000 * N ∧ L.round ≤ 2 + N ∧ (∀ k, k < L.H s' → view L s' k = V k) := by
  obtain ⟨P, f⟩ := h.full
  refine (fall_any h.sys.drum ka kl kc keep torn cut hK hKM).mono ?_
  rintro e w' ⟨rfl, M', D', S'⟩
  obtain ⟨g1, g2⟩ := f.g.fallen q.up q.kept keep torn cut
  have e3 := (fall_settled q.up keep torn cut q.kept).2.2
  refine ⟨rfl, M', _, D', S', ⟨P, g1⟩, by rw [e3, h.n], f.lost, h.leaves, Nat.zero_le _, h.round, fun k hk => ?_⟩
  have e1 : L.H (s.fall keep torn cut) = L.H s := by unfold LS.H; rw [e3]
  rw [g2, h.v k (by rw [← e1]; exact hk)]

/-- one entry that was just made -/
theorem ents_one {w : World} {N : Nat → Prop} {ge gp cp t : Nat} {tt : TypeId} {k : Int} {z : List Int} {o1 : Nat × Nat} (he : w.heap[ge]? = some (.cells #[.int .i64 k, .slice (some ⟨gp, 0, none⟩) 96 cp] t o1)) (hp : w.heap[gp]? = some (.cells (B8 z).toArray tt (0, 0))) (hz : z.length = 96) (hb : IsBytes z) (hk : -9223372036854775808 ≤ k ∧ k ≤ 9223372036854775807) (h1 : ¬ N ge) (h2 : ¬ N gp) : EntsAt w N (some ⟨ge, 0, none⟩) 1 [(k, z)] := by
  refine ⟨rfl, fun _ => rfl, fun i x hi => ?_, fun i x hi => ?_, fun x hx => ?_, fun _ => h1⟩
  · rcases i with _ | i
    · obtain rfl : (k, z) = x := by simpa using hi
      exact blk_cell he rfl
    · simp at hi
  · rcases i with _ | i
    · obtain rfl : (k, z) = x := by simpa using hi
      exact ⟨some ⟨gp, 0, none⟩, cp, by rw [hz]; exact blk_cell he rfl, row_blk hp, fun h => (by cases h), hb, fun _ => h2⟩
    · simp at hi
  · obtain rfl : x = (k, z) := by simpa using hx
    exact ⟨hk.1, hk.2, by rw [hz]; decide⟩

end Go.Proofs.YtddcggdbnhmoiaaGreat
