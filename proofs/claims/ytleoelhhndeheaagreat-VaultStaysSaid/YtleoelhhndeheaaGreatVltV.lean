import Derived.Test.YtleoelhhndeheaaGreatGoodD
import Derived.Test.YtleoelhhndeheaaGreatLedS
import Derived.Test.YtleoelhhndeheaaGreatVltR
import Derived.Test.YtleoelhhndeheaaGreatStepRow
import Derived.Lib.SlBytesConst
/- what was written since a world -/
open Go Go.RowKit
namespace Go.Proofs.YtleoelhhndeheaaGreat

theorem Sys.free {w : World} {M : Dom} {B : Nat → Prop} {d l mb : Nat} {s : DS} {L : LS} (h : Sys w M B d l mb s L) {q : Nat} (hq : w.heap.size ≤ q) : ¬ inD M q := by
  obtain ⟨p, -, D⟩ := h.drum
  rintro (h1 | h1)
  · have := D.ml q h1; omega
  · have := D.xl q h1; omega

/-- what was written since a world lies behind it -/
structure Since (w0 w : World) (M : Dom) (B : Nat → Prop) : Prop where
  below : Below w0.heap.size w0 w
  new : ∀ q, M.M q ∨ B q → w0.heap.size ≤ q
theorem Since.lstep {w0 w w' : World} {M M' : Dom} {B B' : Nat → Prop} (h : Since w0 w M B) (k : LStep M B w M' B' w') : Since w0 w' M' B' :=
  ⟨Below.ext h.below k.ext h.new h.below.size, fun q hq => hq.elim (fun h1 => (k.new q h1).elim (fun h2 => h.new q (.inl h2)) (fun h2 => Nat.le_trans h.below.size h2)) (fun h1 => (k.newB q h1).elim (fun h2 => h.new q (.inr h2)) (fun h2 => Nat.le_trans h.below.size h2))⟩
theorem Since.forget {w0 w : World} {M : Dom} {B : Nat → Prop} (h : Since w0 w M B) : Since w0 w M none' := ⟨h.below, fun q hq => hq.elim (fun h1 => h.new q (.inl h1)) (fun h1 => h1.elim)⟩
theorem Since.step {w0 w w' : World} {M M' : Dom} {B : Nat → Prop} (h : Since w0 w M B) (k : Step M w M' w') : Since w0 w' M' B := h.lstep (LStep.of_step k)
theorem Since.to {w0 w w' : World} {M : Dom} {B : Nat → Prop} (h : Since w0 w M B) (k : Below w.heap.size w w') : Since w0 w' M B := h.lstep (LStep.of_below k)

theorem mayE_one {k : Int} {z : List Int} {H : Nat} (hk : 0 ≤ k ∧ k < H) (hz : z.length = 96) : mayE [(k, z)] H = true := by
  unfold mayE mayFrom
  simp [hk, hz, mayFrom]
theorem over_one (k : Int) (z : List Int) (j : Nat) (y : List Int) : over [(k, z)] j y = if (j : Int) = k then z else y := by
  unfold over
  show (match (if (j : Int) = k then some z else none) with | some y => y | none => _) = _
  split <;> simp_all

end Go.Proofs.YtleoelhhndeheaaGreat

/- package vault: Found; the laws' vault -/
open Go Go.RowKit
open Go.Maps (Keyed has)
namespace Go.Proofs.YtleoelhhndeheaaGreat

theorem leavesN_one : leavesN 1 = 2 := by decide
theorem ents_own1 {w : World} {N : Nat → Prop} {ge b0 : Nat} {a : Option Addr} {c : Nat} {t : TypeId} {o1 : Nat × Nat} {k : Int} {z : List Int} (he : w.heap[ge]? = some (.cells #[.int .i64 k, .slice a 96 c] t o1)) (ho : w.ownsRow b0 5 1 (.slice a 96 c) 96 (B8 z)) (hb : IsBytes z) (hk : -9223372036854775808 ≤ k ∧ k ≤ 9223372036854775807) (h1 : ¬ N ge) (h2 : ∀ q, b0 ≤ q → ¬ N q) : EntsAt w N (some ⟨ge, 0, none⟩) 1 [(k, z)] := by
  obtain ⟨a', c', e, hl, -, -, hrow, hlt, hn⟩ := row_of_owns ho
  cases e
  have hz : z.length = 96 := by rw [B8_length] at hl; exact hl
  refine ⟨rfl, fun _ => rfl, fun i x hi => ?_, fun i x hi => ?_, fun x hx => ?_, fun _ => h1⟩
  · rcases i with _ | i
    · obtain rfl : (k, z) = x := by simpa using hi
      exact blk_cell he rfl
    · simp at hi
  · rcases i with _ | i
    · obtain rfl : (k, z) = x := by simpa using hi
      exact ⟨a, c, by rw [hz]; exact blk_cell he rfl, hrow, fun h => absurd (hn h) (by omega), hb, fun _ => h2 _ (hlt (by decide)).1⟩
    · simp at hi
  · obtain rfl : x = (k, z) := by simpa using hx
    exact ⟨hk.1, hk.2, by rw [hz]; decide⟩

theorem rcsNone_view {V : Nat → List Int} (h : V 0 = listT noRcs) : ∀ k z, laidT noRcs k = some z → V k.toNat = z := by
  intro k z hz
  rcases laidT_some (RcsOk.none 5) hz with ⟨rfl, rfl⟩ | ⟨i, x, hx, -⟩
  · exact h
  · cases hx

set_option maxRecDepth 100000 in
set_option maxHeartbeats 8000000 in
theorem foundV_any {w : World} {M : Dom} {d n : Nat} (h : DrumAt w M d (DS.new n)) {lv : Int} (hn : 10 ≤ n ∧ n ≤ 4096) (hm : mayC 1 lv n = true) :
    Calls Tryz.prog 35 #[.pointer (some ⟨d, 0, none⟩), .int .i64 lv] w fun e w' => e = .returned (.int .i64 0) ∧ ∃ M' B' l mb s L V, LStep M none' w M' B' w' ∧ Live w' M' B' d l mb n lv 2 V s L ∧ Quiet s ∧ V 0 = listT noRcs := by
  obtain ⟨s1, s2, L, hf, ho, F, hl, hr, n1, n2, hk, hu, hu1, hv⟩ := found_up hn.2 hm
  have hlv : 5 ≤ lv ∧ lv + 4 ≤ n := by unfold mayC at hm; simp at hm; omega
  have FO := found_any h lv (by omega) (by show (0 : Nat) < 500000000; omega)
  rw [hf] at FO
  have HO := hid ho
  have FF := hid F
  have HL := hid hl
  have HR := hid hr
  have N1 := hid n1
  have N2 := hid n2
  have HK := hid hk
  have HU := hid hu
  have HU1 := hid hu1
  have HV := hid hv
  have hbuild : ∀ W : World, True := fun _ => trivial
  clear hf ho F hl hr n1 n2 hk hu hu1 hv h
  go_enter Tryz.func35, Tryz.ntmps35
  go_wp2_with fail
  refine FO.mono ?_
  rintro e w2 ⟨rfl, M2, D2, S2⟩
  clear FO
  have OP := open_any D2 (by have := N1.out; omega) (by have := N1.out; omega) (by have := HU1.out; rw [this]; decide)
  have HS2 := hid S2
  clear S2 D2
  go_wp2_with fail
  refine OP.mono ?_
  rintro e w3 (⟨-, M3, B3, l, mb, rfl, SY, LS3⟩ | ⟨h', -⟩)
  · clear OP
    rw [HO.out] at SY
    have LV := hid (show Live w3 M3 B3 d l mb n lv 0 (fun _ => zeros96) s2 L from ⟨SY, ⟨[], FF.out⟩, N2.out, HL.out, by rw [HU.out]; exact Nat.le_refl _, by rw [HR.out]; exact Int.le_refl _, by rw [FF.out.last]; exact Int.le_refl _, HV.out⟩)
    have T3 := hid ((LStep.of_step (B := none') HS2.out).trans LS3)
    have LI := listed_none w3
    clear SY LS3
    go_wp2_with fail
    refine LI.mono ?_
    rintro e w4 ⟨v4, rfl, o4, B4⟩
    clear LI
    obtain ⟨a4, c4, rfl⟩ := owns_slice o4
    obtain ⟨W5, hW5⟩ : ∃ W5, w4.alloc (.cells #[.int .i64 0, .slice a4 96 c4] 100) = W5 := ⟨_, rfl⟩
    have B5 : Below w3.heap.size w3 W5 := by rw [← hW5]; exact B4.alloc B4.size _
    have o5 : W5.ownsRow w3.heap.size 5 1 (.slice a4 96 c4) 96 (B8 (listT noRcs)) := by rw [← hW5]; exact World.ownsRow.alloc o4 _
    have ob5 : W5.heap[w4.heap.size]? = some (.cells #[.int .i64 0, .slice a4 96 c4] 100 (0, 0)) := by rw [← hW5]; exact blk_new _ _
    have hby : IsBytes (listT noRcs) := closed_bytes (listU_bytes noRcs 40)
    have h96 : (listT noRcs).length = 96 := closed_length (by rw [listB_length]; decide)
    have hE := ents_own1 (N := inD M3) ob5 o5 hby (by omega) (LV.out.sys.free B4.size) (fun q hq => LV.out.sys.free hq)
    have WU := writeU (LV.out.below B5) (by omega) (some ⟨w4.heap.size, 0, none⟩) 1 1 [(0, listT noRcs)] hE (by omega) (fun x hx => by obtain rfl := List.mem_singleton.1 hx; exact hby)
    have HM := hid (mayE_one (k := 0) (z := listT noRcs) (H := homes n lv) (by unfold homes; omega) h96)
    have HB5 := hid B5
    clear o4 B4 B5 o5 ob5 hby h96 hE
    go_wp2_with fail
    refine WU.mono ?_
    rintro e w6 ⟨M6, B6, mb6, s6, L6, T6, ⟨hf, -⟩ | ⟨-, hbig, -⟩ | ⟨-, -, rfl, LV6⟩⟩
    · rw [HM.out] at hf; cases hf
    · rw [show leavesN ([((0 : Int), listT noRcs)] : List Ent).length = 2 from leavesN_one] at hbig
      omega
    · clear WU
      have BU := balanceU LV6 (by omega)
      have LV6H := hid LV6
      have T6H := hid (T3.out.trans ((LStep.of_below HB5.out).trans T6))
      clear LV6 T6
      go_wp2_with fail
      refine BU.mono ?_
      rintro e w7 ⟨rfl, M7, B7, mb7, s7, L7, T7, LV7, Q7, -⟩
      have LV7H := hid LV7
      have T7H := hid (T6H.out.trans T7)
      have Q7H := hid Q7
      clear BU LV7 T7 Q7
      go_wp2_with fail
      go_ret
      exact ⟨rfl, M7, B7, l, mb7, s7, L7, _, T7H.out, LV7H.out, Q7H.out, by rw [show ((0 : Nat) : Nat) = 0 from rfl]; have := over_one 0 (listT noRcs) 0 zeros96; simpa using this⟩
  · rw [HO.out] at h'
    exact absurd rfl h'

end Go.Proofs.YtleoelhhndeheaaGreat

/- package vault: the laws' vault, opened and founded -/
open Go Go.RowKit
open Go.Maps (Keyed has)
namespace Go.Proofs.YtleoelhhndeheaaGreat

/-- a ledger that goes, but for its memory -/
structure LiveP (n : Nat) (lv : Int) (N : Nat) (V : Nat → List Int) (s : DS) (L : LS) : Prop where
  full : ∃ P, Full L s P
  n : s.n = n
  leaves : L.leaves = lv
  up : s.up.length ≤ 10000 * N
  round : L.round ≤ 2 + N
  last : L.last ≤ N
  v : ∀ k, k < L.H s → view L s k = V k
theorem Live.p {w : World} {M : Dom} {B : Nat → Prop} {d l mb n : Nat} {lv : Int} {N : Nat} {V : Nat → List Int} {s : DS} {L : LS} (h : Live w M B d l mb n lv N V s L) : LiveP n lv N V s L := ⟨h.full, h.n, h.leaves, h.up, h.round, h.last, h.v⟩
theorem LiveP.live {w : World} {M : Dom} {B : Nat → Prop} {d l mb n : Nat} {lv : Int} {N : Nat} {V : Nat → List Int} {s : DS} {L : LS} (h : LiveP n lv N V s L) (k : Sys w M B d l mb s L) : Live w M B d l mb n lv N V s L := ⟨k, h.full, h.n, h.leaves, h.up, h.round, h.last, h.v⟩

/-- opened where records stand -/
theorem openVU {w : World} {M : Dom} {d n : Nat} {lv : Int} {N : Nat} {V : Nat → List Int} {s : DS} {L : LS} {P : List (List Ent)} (hd : DrumAt w M d s) (g : Good L s P) (hlo : L.lost = false) (hn : s.n = n) (hlv : L.leaves = lv) (hu : s.up.length ≤ 10000 * N) (hr : L.round ≤ 2 + N) (hv : ∀ k, k < L.H s → view L s k = V k) (hN : N ≤ 1000)
    (hH : 2 ≤ homes n lv ∧ homes n lv ≤ 600) {R : Rcs} (ok : RcsOk R (homes n lv)) (hV : ∀ k z, laidT R k = some z → V k.toNat = z) :
    Calls Tryz.prog 18 #[.pointer (some ⟨d, 0, none⟩)] w fun e w' => ∃ M' B' C' l mb v s' L', e = .returned (.tuple #[.pointer (some ⟨v, 0, none⟩), .int .i64 0]) ∧ LStep M none' w M' (fun q => B' q ∨ C' q) w' ∧ VLive w' M' B' C' d l mb v n lv (N + 1) V s' L' R R ∧ Quiet s' := by
  have OP := (openU hd g hlo hn hlv hu hr hv hN).mono (R' := fun e w' => ∃ M' B' l mb s L, e = .returned (.tuple #[.pointer (some ⟨l, 0, none⟩), .int .i64 0]) ∧ LStep M none' w M' B' w' ∧ Rd w' M' B' d l mb s L (homes n lv) ∧ (LiveP n lv (N + 1) V s L ∧ Quiet s ∧ loadV (L.lookZ s) (homes n lv) = some R)) (fun e w' => by
    rintro ⟨M', B', l', mb', s', L', rfl, T, LV, Q, -⟩
    exact ⟨M', B', l', mb', s', L', rfl, T, LV.rd, LV.p, Q, loadV_view LV ⟨hH.1, by omega⟩ ok hV⟩)
  refine (openV_any (P := fun _ _ _ _ s L => LiveP n lv (N + 1) V s L ∧ Quiet s ∧ loadV (L.lookZ s) (homes n lv) = some R) (fun _ _ _ _ _ _ _ h => h) OP).mono ?_
  rintro e w' ⟨M', B', C', l, mb, s', L', T, ⟨LP, Q, hld⟩, ⟨R', v, hl, rfl, VS, -⟩ | ⟨hl, -⟩⟩
  · rw [hld] at hl
    obtain rfl := Option.some.inj hl
    exact ⟨M', B', C', l, mb, v, s', L', rfl, T, ⟨VS, LP.live VS.sys, ok, ok, hH, hV⟩, Q⟩
  · rw [hld] at hl; cases hl

theorem found6_any (n : Nat) (lv : Int) (w : World) (h1 : 10 ≤ n) (h2 : n ≤ 4096) (hm : mayC 1 lv n = true) (hH : homes n lv ≤ 600) :
    Calls Tryz.prog 14 #[.int .i64 (n : Int), .int .i64 lv] w fun e w' => ∃ M B C d l mb v s L V, e = .returned (.tuple #[.pointer (some ⟨v, 0, none⟩), .pointer (some ⟨d, 0, none⟩)]) ∧ VLive w' M B C d l mb v n lv 3 V s L noRcs noRcs ∧ Quiet s ∧ Since w w' M (fun q => B q ∨ C q) := by
  have hlv : 5 ≤ lv ∧ lv + 4 ≤ n := by unfold mayC at hm; simp at hm; omega
  have hH2 : 2 ≤ homes n lv := by unfold homes; omega
  go_enter Tryz.func14, Tryz.ntmps14
  go_wp2_with fail
  refine (newn_any n w h1 h2).mono ?_
  rintro e w1 ⟨d, M, rfl, D1, hM, B1⟩
  have FO := foundV_any D1 ⟨h1, h2⟩ hm
  have HB1 := hid B1
  have HM := hid hM
  clear D1 B1 hM
  go_wp2_with fail
  refine FO.mono ?_
  rintro e w2 ⟨rfl, M2, B2, l, mb, s, L, V, T2, LV, Q, hV0⟩
  clear FO
  obtain ⟨P, f⟩ := LV.full
  have OP := openVU LV.sys.drum f.g f.lost LV.n LV.leaves LV.up LV.round LV.v (by omega) ⟨hH2, hH⟩ (RcsOk.none _) (rcsNone_view hV0)
  have T2H := hid T2
  clear LV T2 Q hV0 f
  go_wp2_with fail
  refine OP.mono ?_
  rintro e w3 ⟨M3, B3, C3, l3, mb3, v3, s3, L3, rfl, T3, VL3, Q3⟩
  have VL3H := hid VL3
  have Q3H := hid Q3
  have T3H := hid (T2H.out.forget.trans T3)
  clear OP VL3 Q3 T3
  go_wp2_with fail
  go_ret2
  refine ⟨M3, B3, C3, d, l3, mb3, v3, s3, L3, V, rfl, VL3H.out, Q3H.out, ?_⟩
  exact (⟨HB1.out, fun q hq => hq.elim (HM.out q) (fun h => h.elim)⟩ : Since w w1 M none').lstep T3H.out

/-! how many tracks are used -/
theorem usedOf_put (R : Rcs) (id : Int) (x : List Int × List Int) : ∀ l : List Int, l.Nodup → id ∈ l → usedOf (R.put id x) l + (R.trks id).length = usedOf R l + x.2.length
  | [], _, h => by cases h
  | a :: r, hn, h => by
    have h2 := List.nodup_cons.1 hn
    show usedOf (R.put id x) r + ((R.put id x).trks a).length + _ = usedOf R r + (R.trks a).length + _
    by_cases e : a = id
    · subst e
      have hr : ∀ l : List Int, a ∉ l → usedOf (R.put a x) l = usedOf R l := by
        intro l
        induction l with
        | nil => intro _; rfl
        | cons b q ih =>
          intro hb
          show usedOf (R.put a x) q + ((R.put a x).trks b).length = usedOf R q + (R.trks b).length
          rw [ih (fun h => hb (List.mem_cons_of_mem _ h))]
          have : (R.put a x).trks b = R.trks b := by unfold Rcs.trks Rcs.put; rw [if_neg (fun e => hb (by rw [e]; exact List.mem_cons_self))]
          rw [this]
      have e2 : (R.put a x).trks a = x.2 := by unfold Rcs.trks Rcs.put; simp
      rw [hr r h2.1, e2]
      omega
    · have e2 : (R.put id x).trks a = R.trks a := by unfold Rcs.trks Rcs.put; rw [if_neg e]
      have ih := usedOf_put R id x r h2.2 (by rcases List.mem_cons.1 h with h | h
                                              · exact absurd h.symm e
                                              · exact h)
      rw [e2]
      omega
theorem used_putB {R : Rcs} {H : Nat} (ok : RcsOk R H) (h0 : 0 < H) (hH : H ≤ 4096) {id : Int} (hid' : 1 ≤ id ∧ id ≤ 40) {b : List Int} (hn : takes b.length + R.used ≤ H + (R.trks id).length) : (R.putB id b).used + (R.trks id).length = R.used + takes b.length := by
  have := usedOf_put R id (b, R.nextT id b.length) ids40 ids40_nodup (mem_ids40.2 hid')
  have h2 := (nextT_spec ok h0 hH hn).1
  unfold Rcs.putB Rcs.used at *
  rw [this]
  simp only
  omega
theorem nodup_sub {α : Type} [DecidableEq α] : ∀ (l m : List α), l.Nodup → (∀ x ∈ l, x ∈ m) → l.length ≤ m.length
  | [], m, _, _ => Nat.zero_le _
  | a :: r, m, hn, h => by
    have h2 := List.nodup_cons.1 hn
    have ha := h a List.mem_cons_self
    have ih := nodup_sub r (m.erase a) h2.2 (fun x hx => (List.mem_erase_of_ne (fun e => by subst e; exact h2.1 hx)).2 (h x (List.mem_cons_of_mem _ hx)))
    rw [List.length_erase_of_mem ha] at ih
    have : 0 < m.length := List.length_pos_of_mem ha
    simp only [List.length_cons]
    omega
theorem turned_used {K N : Rcs} {H : Nat} (okn : RcsOk N H) : (turnedL K N).length ≤ N.used := by
  rw [used_length]
  have := nodup_sub ((turnedL K N).map Prod.fst) (usedL N) ((turnedL_keys K N).imp (fun {a b} h => by omega)) (fun k hk => by
    obtain ⟨x, hx, rfl⟩ := List.mem_map.1 hk
    rcases laidT_some okn (turnedL_mem hx) with ⟨e, -⟩ | ⟨i, y, hy, j, hj, e, -⟩
    · rw [e]; exact List.mem_cons_self
    · rw [e]
      refine List.mem_cons_of_mem _ (List.mem_flatMap.2 ⟨i, mem_ids40.2 (okn.id i y hy), ?_⟩)
      rw [trks_of hy]
      exact List.getElem_mem hj)
  simpa using this
theorem used_none : noRcs.used = 1 := by decide

end Go.Proofs.YtleoelhhndeheaaGreat

/- package vault: the laws' known -/
open Go Go.RowKit
open Go.Maps (Keyed has)
namespace Go.Proofs.YtleoelhhndeheaaGreat

def abcB : List Int := [97, 98, 99]
theorem abc_ok : RcsOk (noRcs.putB 3 abcB) 38 := by
  have h := putted_ok (lost := false) (id := 3) (b := abcB) (RcsOk.none 38) (by decide) (by decide) (by intro n hn; simp [abcB] at hn; omega)
  have e : noRcs.putted 38 false 3 abcB = noRcs.putB 3 abcB := by
    unfold Rcs.putted
    rw [if_pos (by decide)]
  rwa [e] at h
theorem abc_used : (noRcs.putB 3 abcB).used = 2 := by
  have := used_putB (RcsOk.none 38) (by decide) (by decide) (id := 3) (by omega) (b := abcB) (by decide)
  rw [used_none, show takes abcB.length = 1 by decide, show (noRcs.trks 3).length = 0 from rfl] at this
  omega

theorem row_blkF {w : World} {g : Nat} {cs : Array Value} {t : TypeId} {fr : Nat × Nat} (h : w.heap[g]? = some (.cells cs t fr)) : Row w (some ⟨g, 0, none⟩) cs.toList :=
  ⟨fun _ => rfl, fun i v hv => by
    show w.cell? ⟨g, 0 + i, none⟩ = some v
    rw [Nat.zero_add]
    unfold World.cell?
    rw [h]
    simpa using hv⟩
theorem row_of_owns2 {w : World} {base : Nat} {E : TypeId} {a : Option Addr} {n c : Nat} {vs : List Value} (h : w.ownsRow base E 1 (.slice a n c) n vs) : Row w a vs := by
  obtain ⟨a', c', e, -, -, -, hr, -⟩ := row_of_owns h
  cases e
  exact hr

set_option maxRecDepth 100000 in
set_option maxHeartbeats 8000000 in
theorem known6_any (w : World) : Calls Tryz.prog 11 #[] w fun e w' => e = .returned (.bool true) ∧ Below w.heap.size w w' := by
  have kc := fun (w : World) (C : Array Value) (n c : Nat) => Lib.run_convert_bytes_const (P := Tryz.prog) w 27 5 C n c Tryz.underlying27 Tryz.underlying5
  go_enter Tryz.func11, Tryz.ntmps11
  go_wp2_with fail
  refine (found6_any 60 20 w (by omega) (by omega) (by decide) (by decide)).mono ?_
  rintro e w1 ⟨M, B, C, d, l, mb, v, s, L, V, rfl, VL, Q, SI⟩
  have HVL := hid VL
  have HSI := hid SI
  clear VL Q SI
  go_wp2_with fail
  refine (takes_any 0 w1 (by omega)).mono ?_
  rintro e w2 ⟨rfl, rfl⟩
  rw [show takes 0 = 1 by decide]
  go_wp2_with fail
  refine (takes_any 80 w1 (by omega)).mono ?_
  rintro e w2 ⟨rfl, rfl⟩
  rw [show takes 80 = 1 by decide]
  go_wp2_with fail
  refine (takes_any 81 w1 (by omega)).mono ?_
  rintro e w2 ⟨rfl, rfl⟩
  rw [show takes 81 = 2 by decide]
  obtain ⟨W2, hW2⟩ : ∃ W2, w1.alloc (.cells #[.int .u8 97, .int .u8 98, .int .u8 99] 5 (3, 4)) = W2 := ⟨_, rfl⟩
  have B2 : Below w1.heap.size w1 W2 := by rw [← hW2]; exact (Below.refl _ _).alloc (Nat.le_refl _) _
  have r2 : Row W2 (some ⟨w1.heap.size, 0, none⟩) (B8 abcB) := row_blkF (cs := #[.int .u8 97, .int .u8 98, .int .u8 99]) (t := 5) (fr := (3, 4)) (by rw [← hW2]; show (w1.heap.push _)[w1.heap.size]? = _; simp)
  have hby : IsBytes abcB := by intro n hn; simp [abcB] at hn; omega
  have eH : homes 60 20 = 38 := by decide
  have PU := putV_any (HVL.out.vs.below B2) HVL.out.live.ok.lv (HVL.out.live.H.trans eH) (by have := HVL.out.okn; rw [eH] at this; exact this) 3 (by omega) (some ⟨w1.heap.size, 0, none⟩) 3 3 abcB r2 rfl (by omega) (fun h => by cases h) hby
  have HB2 := hid B2
  have EC := hid (show putC noRcs 38 L.lost 3 abcB.length = 0 by rw [HVL.out.lost]; decide)
  clear B2 r2 hby
  go_wp2_with fail
  refine PU.mono ?_
  rintro e w3 ⟨rfl, VS3, T3⟩
  clear PU kc hW2
  rw [EC.out]
  have VL3 := hid (show VLive w3 M B C d l mb v 60 20 3 V s L (noRcs.putB 3 abcB) noRcs from (HVL.out.below HB2.out).own (by
    unfold Rcs.putted at VS3
    rw [EC.out, if_pos rfl] at VS3
    exact VS3) (by rw [eH]; exact abc_ok))
  have SI3 := hid ((HSI.out.to HB2.out).lstep (T3.vault (B := B)))
  clear VS3 T3
  have KE := keepU VL3.out (by omega)
  go_wp2_with fail
  refine KE.mono ?_
  have hfit : leavesN (turnedL noRcs (noRcs.putB 3 abcB)).length ≤ 20 := by
    have := turned_used (K := noRcs) abc_ok
    rw [abc_used] at this
    unfold leavesN
    split <;> omega
  rintro e w4 ⟨M4, B4, C4, mb4, s4, L4, V4, T4, hcase⟩
  obtain ⟨rfl, VL4'⟩ : e = .returned (.int .i64 0) ∧ VLive w4 M4 B4 C4 d l mb4 v 60 20 4 V4 s4 L4 (noRcs.putB 3 abcB) (noRcs.putB 3 abcB) := by
    rcases hcase with ⟨-, rfl, -, -, h⟩ | ⟨-, rfl, h⟩ | ⟨h, -⟩
    · exact ⟨rfl, ⟨h.vs, h.live.le (by omega), h.okn, h.okk, h.hH, h.view⟩⟩
    · exact ⟨rfl, h⟩
    · omega
  have VL4 := hid VL4'
  have SI4 := hid (SI3.out.lstep T4)
  clear KE hcase VL4' T4 hfit
  have SE := settleV_any VL4.out.vs (Q := fun c w' => c = 0 ∧ ∃ M' B' mb' s', LStep M4 B4 w4 M' B' w' ∧ Live w' M' B' d l mb' 60 20 4 V4 s' L4 ∧ Quiet s') ((settleU VL4.out.live).mono (fun e w' ⟨h1, M', B', mb', s', h2, h3, h4⟩ => ⟨0, h1, rfl, M', B', mb', s', h2, h3, h4⟩))
  go_wp2_with fail
  refine SE.mono ?_
  rintro e w5 ⟨c5, rfl, rfl, M5, B5, mb5, s5, T5, LV5, Q5⟩
  have LV5H := hid LV5
  have Q5H := hid Q5
  have SI5 := hid (SI4.out.lstep (T5.vault (C := C4)))
  clear SE LV5 Q5 T5
  have FA := fallU LV5H.out Q5H.out none 0 0 [] (-1) 0 (IntsAt.none _) (fun h => by omega)
  go_wp2_with fail
  refine FA.mono ?_
  rintro e w6 ⟨rfl, M6, s6, D6, S6, ⟨P6, g6⟩, hn6, hlo6, hl6, hu6, hr6, v6⟩
  have OP := openVU D6 g6 hlo6 hn6 hl6 hu6 hr6 v6 (by omega) VL4.out.hH VL4.out.okk VL4.out.view
  have SI6 := hid ((SI5.out.step S6).forget)
  clear FA D6 S6 g6 hn6 hlo6 hl6 hu6 hr6 v6
  go_wp2_with fail
  refine OP.mono ?_
  rintro e w7 ⟨M7, B7, C7, l7, mb7, v7, s7, L7, rfl, T7, VL7', -⟩
  have VL7 := hid VL7'
  have SI7 := hid (SI6.out.lstep T7)
  clear OP VL7' T7
  have GE := getV_any VL7.out.vs VL7.out.okn 3 (by omega)
  rw [show (noRcs.putB 3 abcB) 3 = some (abcB, noRcs.nextT 3 3) from rfl, show (noRcs.putB 3 abcB).bytes 3 = abcB from rfl] at GE
  go_wp2_with fail
  refine GE.mono ?_
  rintro e w8 ⟨u8, rfl, o8, B8'⟩
  clear GE
  obtain ⟨a8, c8, rfl⟩ := owns_slice o8
  have CK := conv_row (P := Tryz.prog) (w := w8) Tryz.underlying27 Tryz.underlying5 Tryz.underlying9 c8 (row_of_owns2 o8) (show abcB.length = 3 from rfl)
  rw [show strOfNums abcB = (⟨#[97, 98, 99]⟩ : ByteArray) by decide] at CK
  have FR := freeV_any (VL7.out.vs.below B8') (VL7.out.live.ok.lv) (VL7.out.live.H.trans eH) abc_ok
  rw [abc_used] at FR
  have HB8 := hid B8'
  rw [show abcB.length = 3 from rfl]
  clear o8 B8'
  go_wp2_with fail
  refine FR.mono ?_
  rintro e w9 ⟨rfl, B9⟩
  have TR := tracksV_any ((VL7.out.vs.below HB8.out).below B9) (VL7.out.live.ok.lv)
  rw [VL7.out.live.H, eH] at TR
  have HB9 := hid B9
  clear FR B9 CK
  go_wp2_with fail
  refine TR.mono ?_
  rintro e w10 ⟨rfl, rfl⟩
  clear TR
  go_wp2_with fail
  go_ret
  exact ⟨rfl, ((SI7.out.to HB8.out).to HB9.out).below⟩

end Go.Proofs.YtleoelhhndeheaaGreat
