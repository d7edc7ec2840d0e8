import Derived.Test.YtddcggdbnhmoiaaGreatLawX
import Derived.Test.YtddcggdbnhmoiaaGreatEntsW
import Derived.Test.YtddcggdbnhmoiaaGreatRestC
/- the home tracks as one text; few numbers -/
open Go Go.RowKit
namespace Go.Proofs.YtddcggdbnhmoiaaGreat

/-- texts of bytes: a part, and two joined -/
theorem str_take (xs : List Int) (n : Nat) : (strOfNums xs).extract 0 n = strOfNums (xs.take n) := by
  apply ByteArray.ext
  rw [ByteArray.data_extract]
  apply Array.toList_inj.1
  rw [Array.toList_extract, strOfNums_data, strOfNums_data]
  simp [List.map_take]
theorem str_drop (xs : List Int) (n m : Nat) (h : xs.length ≤ m) : (strOfNums xs).extract n m = strOfNums (xs.drop n) := by
  apply ByteArray.ext
  rw [ByteArray.data_extract]
  apply Array.toList_inj.1
  rw [Array.toList_extract, strOfNums_data, strOfNums_data]
  simp only [List.extract, List.map_drop]
  rw [List.take_of_length_le (by simp; omega)]
theorem str_append (xs ys : List Int) : strOfNums xs ++ strOfNums ys = strOfNums (xs ++ ys) := by
  apply ByteArray.ext
  rw [ByteArray.data_append]
  apply Array.toList_inj.1
  rw [Array.toList_append, strOfNums_data, strOfNums_data, strOfNums_data, List.map_append]

/-- the home tracks, one behind the other -/
def textN (n : Nat) (V : Nat → List Int) : List Int := (List.range n).flatMap V
theorem textN_succ (n : Nat) (V : Nat → List Int) : textN (n + 1) V = textN n V ++ V n := by unfold textN; rw [List.range_succ, List.flatMap_append]; simp
theorem textN_length {V : Nat → List Int} : ∀ {n : Nat}, (∀ k, k < n → (V k).length = 96) → (textN n V).length = n * 96
  | 0, _ => rfl
  | n + 1, h => by rw [textN_succ, List.length_append, textN_length (fun k hk => h k (by omega)), h n (by omega)]; omega
theorem textN_congr {V V' : Nat → List Int} : ∀ {n : Nat}, (∀ k, k < n → V k = V' k) → textN n V = textN n V'
  | 0, _ => rfl
  | n + 1, h => by rw [textN_succ, textN_succ, textN_congr (fun k hk => h k (by omega)), h n (by omega)]
theorem textN_bytes {V : Nat → List Int} : ∀ {n : Nat}, (∀ k, k < n → IsBytes (V k)) → IsBytes (textN n V)
  | 0, _ => fun _ h => by cases h
  | n + 1, h => by rw [textN_succ]; exact (textN_bytes (fun k hk => h k (by omega))).append (h n (by omega))
/-- one of them is another one -/
theorem textN_set {V : Nat → List Int} {j : Nat} {z : List Int} : ∀ {n : Nat}, (∀ k, k < n → (V k).length = 96) → j < n → (textN n V).take (j * 96) ++ z ++ (textN n V).drop (j * 96 + 96) = textN n fun k => if k = j then z else V k
  | 0, _, hj => by omega
  | n + 1, h, hj => by
    have hl := textN_length (n := n) (fun k hk => h k (by omega))
    have hn := h n (by omega)
    rw [textN_succ, textN_succ]
    by_cases e : j = n
    · subst e
      rw [if_pos rfl, List.take_append_of_le_length (by omega), List.take_of_length_le (by omega), List.drop_eq_nil_of_le (by rw [List.length_append]; omega), List.append_nil]
      congr 1
      exact textN_congr fun k hk => by rw [if_neg (by omega)]
    · have ih := textN_set (V := V) (j := j) (z := z) (n := n) (fun k hk => h k (by omega)) (by omega)
      have hm : (j + 1) * 96 ≤ n * 96 := Nat.mul_le_mul_right _ (by omega)
      rw [if_neg (fun h => e h.symm), ← ih, List.take_append_of_le_length (by omega), List.drop_append_of_le_length (by omega), List.append_assoc, List.append_assoc, List.append_assoc]

set_option maxRecDepth 100000 in
set_option maxHeartbeats 2000000 in
theorem homeS_any {w : World} {M : Dom} {B : Nat → Prop} {d l mb n : Nat} {lv : Int} {N : Nat} {V : Nat → List Int} {s : DS} {L : LS} (h : Live w M B d l mb n lv N V s L) (hn : n ≤ 4096) (hlv : 0 ≤ lv) :
    Calls Tryz.prog 29 #[.pointer (some ⟨l, 0, none⟩)] w fun e w' => e = .returned (.string (strOfNums (textN (homes n lv) V))) ∧ Live w' M B d l mb n lv N V s L ∧ LStep M B w M B w' := by
  obtain ⟨H, hH⟩ : ∃ H, homes n lv = H := ⟨_, rfl⟩
  have hH4 : H ≤ 4096 := by rw [← hH]; unfold homes; omega
  have WF : Hid (∀ k, k < H → (V k).length = 96 ∧ IsBytes (V k)) := hid fun k hk => h.wf (by rw [hH]; exact hk)
  rw [hH]
  have HHid := hid hH
  have LH := hid h
  clear h hH
  go_enter Tryz.func29, Tryz.ntmps29
  go_wp2_with fail
  go_loopw [3, 4] (fun u v wr => ∃ k : Nat, u = .string (strOfNums (textN k V)) ∧ v = .int .i64 k ∧ k ≤ H ∧ Hid (Live wr M B d l mb n lv N V s L) ∧ Hid (LStep M B w M B wr)) (fun _ v _ => H - (Go.RowKit.intOf v).toNat)
  case atStart => exact ⟨0, rfl, rfl, Nat.zero_le _, LH, hid (LStep.refl _ _ _)⟩
  case round =>
    obtain ⟨k, rfl, rfl, hk, LV, LT⟩ := hrel
    have HM := homeU LV.out
    rw [HHid.out] at HM
    by_cases hkH : k < H
    · go_wp2_with fail
      refine HM.mono ?_
      rintro e w2 ⟨rfl, rfl⟩
      have LU := lookU LV.out k (by rw [HHid.out]; exact hkH)
      clear HM
      go_wp2_with fail
      refine LU.mono ?_
      rintro e w3 ⟨la, lc, rfl, ho, h96, hby, LV3, T3⟩
      obtain ⟨_, _, hve, -, -, -, hrow, -⟩ := row_of_owns ho
      cases hve
      have CK := conv_row (P := Tryz.prog) Tryz.underlying45 Tryz.underlying5 Tryz.underlying9 lc hrow h96
      have sz1 : (strOfNums (textN k V)).size = k * 96 := by rw [strOfNums_size, textN_length (fun j hj => (WF.out j (by omega)).1)]
      have sz2 : (strOfNums (V k)).size = 96 := by rw [strOfNums_size, h96]
      have L3 := hid LV3
      have S3 := hid (LT.out.trans T3)
      have hsum : k * 96 + 96 ≤ 400000 := by omega
      have TS := textN_succ k V
      have AP := str_append (textN k V) (V k)
      rw [← TS] at AP
      clear LU ho h96 hby LV3 T3 hrow TS
      go_wp2_with fail
      go_roundw
      case measure => simp [Go.RowKit.intOf]; omega
      case rel => exact ⟨k + 1, by first | rfl | rw [AP], by go_num, by omega, L3, S3⟩
    · obtain rfl : H = k := by omega
      go_wp2_with fail
      refine HM.mono ?_
      rintro e w2 ⟨rfl, rfl⟩
      clear HM
      go_wp2_with fail
      go_ret
      exact ⟨rfl, LV.out, LT.out⟩

set_option maxRecDepth 100000 in
set_option maxHeartbeats 2000000 in
theorem few5_any (a : Option Addr) (len cap n : Nat) (zs : List Int) (w : World) (h : IntsAt w a len cap zs) (hz : IsNums zs) (hn : 0 < n ∧ n ≤ 1000) :
    Calls Tryz.prog 36 #[.slice a len cap, .int .i64 (n : Int)] w fun e w' => ∃ o ys, e = .returned o ∧ w'.ownsRow w.heap.size 3 1 o ys.length (I8 ys) ∧ ys.length ≤ 20 ∧ Below w.heap.size w w' := by
  obtain ⟨i0, hi, hz0, hz1, hz2⟩ := info_parts (show (Tryz.prog.info? 3).map (fun i => (i.zero, i.size, i.bytes)) = some (some (.int .i64 0), 1, 8) by kernel_rfl)
  have hix : ∀ (k : Nat), k < len → ∀ W', (Instr.indexAt 23 (.slice a len cap) (.int .i64 k)).run Tryz.prog W' = .ok (.pointer (some ⟨sB a, sO a + k, none⟩)) W' := fun k hk W' => idx_at1 (P := Tryz.prog) Tryz.underlying23 (by kernel_rfl) (fun h0 => h.row.nn (by simpa [h.len] using h0)) hk W'
  have HA := hid h
  have HB := hid hz
  clear h hz
  go_enter Tryz.func36, Tryz.ntmps36
  go_wp2_with fail
  go_loopw [5, 6] (fun u v wr => ∃ (k : Nat) (o : Value) (ys : List Int), o = u ∧ v = .int .i64 k ∧ k ≤ 20 ∧ k ≤ len ∧ Hid (ys.length = k) ∧ wr.ownsRow w.heap.size 3 1 o k (I8 ys) ∧ Below w.heap.size w wr) (fun _ v _ => 20 - (Go.RowKit.intOf v).toNat)
  case atStart => exact ⟨0, _, [], rfl, rfl, by omega, Nat.zero_le _, hid rfl, World.ownsRow_nil _ _ _ _, Below.refl _ _⟩
  case round =>
    obtain ⟨k, o, ys, rfl, rfl, hk1, hk2, YL, OW, B⟩ := hrel
    by_cases hgo : k < len ∧ k < 20
    · obtain ⟨h1, h2⟩ := hgo
      have hixk := hix k h1
      obtain ⟨z, hz⟩ : ∃ z, zs[k]? = some z := ⟨_, List.getElem?_eq_getElem (by rw [HA.out.len]; exact h1)⟩
      have cz : wr.cell? ⟨sB a, sO a + k, none⟩ = some (.int .i64 z) := (HA.out.row.below B (Nat.le_refl _)).cell k _ (by simp [I8, hz])
      have PK := pick_any z n wr (HB.out z (List.mem_of_getElem? hz)) (by omega) (by omega)
      obtain ⟨x, hx⟩ : ∃ x, z % (n : Int) = x := ⟨_, rfl⟩
      rw [hx] at PK
      clear hz hx
      have hbs : w.heap.size ≤ (wr.alloc (.cells #[.int .i64 x] 3)).heap.size := by have := B.size; simp; omega
      go_wp2_with fail
      refine PK.mono ?_
      rintro e w2 ⟨rfl, rfl⟩
      clear PK
      go_wp2_with (at_builtin; refine wpList_append_row (P := Tryz.prog) rfl _ _ 23 rfl w.heap.size 3 i0 (.int .i64 0) Tryz.underlying23 hi hz0 hz1 (by omega) rfl o k _ rfl (OW.alloc _) (some ⟨wr.heap.size, 0, none⟩) 1 1 [.int .i64 x] rfl (row_at _ _ _ (by simp)) rfl (fun h => by cases h) (fun u hu => by simp at hu; subst hu; rfl) ?c4 ?c5 ?_)
      case c4 => omega
      case c5 => exact hbs
      intro v' w4 o4 B4 _
      go_wp2_with fail
      go_roundw
      case measure => simp [Go.RowKit.intOf]; omega
      case rel =>
        refine ⟨k + 1, v', ys ++ [x], rfl, by go_num, by omega, by omega, hid (by simp [YL.out]), ?_, (B.alloc (by have := B.size; omega) _).trans B4⟩
        rw [I8, List.map_append]
        exact o4
    · have E1 : ∀ w', wr = w' → ∃ o' ys', o = o' ∧ w'.ownsRow w.heap.size 3 1 o' ys'.length (I8 ys') ∧ ys'.length ≤ 20 ∧ Below w.heap.size w w' := fun w' e => by subst e; exact ⟨o, ys, rfl, by rw [YL.out]; exact OW, by rw [YL.out]; exact hk1, B⟩
      by_cases h1 : k < len
      · obtain rfl : k = 20 := by omega
        have h3 : (20 : Int) < (len : Int) := by omega
        go_wp2_with fail
        go_ret
        obtain ⟨o', ys', e1, e2⟩ := E1 _ rfl
        exact ⟨o', ys', by subst e1; rfl, e2⟩
      · obtain rfl : k = len := by omega
        go_wp2_with fail
        go_ret
        obtain ⟨o', ys', e1, e2⟩ := E1 _ rfl
        exact ⟨o', ys', by subst e1; rfl, e2⟩

end Go.Proofs.YtddcggdbnhmoiaaGreat

/- a ledger's life: writes that lie afloat, a fall, an opening -/
open Go Go.RowKit
namespace Go.Proofs.YtddcggdbnhmoiaaGreat

/-- a ledger of which k postings of two leaves lie afloat -/
structure Wet (w : World) (M : Dom) (B : Nat → Prop) (d l mb n : Nat) (lv : Int) (N k : Nat) (s : DS) (L : LS) : Prop where
  sys : Sys w M B d l mb s L
  full : ∃ P, Full L s P ∧ Float s L.round L.leaves P 0
  n : s.n = n
  leaves : L.leaves = lv
  used : L.used = 2 * k
  up : s.up.length = 2 * k
  last : L.last = k
  round : L.round ≤ 2 + N
theorem Wet.below {w w' : World} {M : Dom} {B : Nat → Prop} {d l mb n : Nat} {lv : Int} {N k : Nat} {s : DS} {L : LS} (h : Wet w M B d l mb n lv N k s L) (kb : Below w.heap.size w w') : Wet w' M B d l mb n lv N k s L :=
  ⟨h.sys.below kb, h.full, h.n, h.leaves, h.used, h.up, h.last, h.round⟩
theorem Wet.hw {w : World} {M : Dom} {B : Nat → Prop} {d l mb n : Nat} {lv : Int} {N k : Nat} {s : DS} {L : LS} (h : Wet w M B d l mb n lv N k s L) : L.Ok s ∧ L.H s = homes n lv := by
  obtain ⟨P, f, -⟩ := h.full
  exact ⟨f.g.ok, by unfold LS.H homes; rw [h.n, h.leaves]⟩
theorem Live.wet {w : World} {M : Dom} {B : Nat → Prop} {d l mb n : Nat} {lv : Int} {N : Nat} {V : Nat → List Int} {s : DS} {L : LS} (h : Live w M B d l mb n lv N V s L) (q : Quiet s) (hu : L.used = 0) (hN : N ≤ 200) : Wet w M B d l mb n lv N 0 s L := by
  obtain ⟨P, f⟩ := h.full
  have hr := h.round
  have hp : P = [] := by
    have h1 := posts_least (r := L.round) P 1 f.g.p
    have h2 := f.used
    exact List.eq_nil_of_length_eq_zero (by omega)
  subst hp
  exact ⟨h.sys, ⟨[], f, f.float q.kept q.up (by omega)⟩, h.n, h.leaves, by rw [hu]; rfl, by rw [q.up]; rfl, f.last, hr⟩
theorem homeWet {w : World} {M : Dom} {B : Nat → Prop} {d l mb n : Nat} {lv : Int} {N k : Nat} {s : DS} {L : LS} (h : Wet w M B d l mb n lv N k s L) :
    Calls Tryz.prog 25 #[.pointer (some ⟨l, 0, none⟩)] w fun e w' => e = .returned (.int .i64 ((homes n lv : Nat) : Int)) ∧ w = w' := by
  have := home_any h.sys h.hw.1.lv
  rwa [h.hw.2] at this
theorem writeWet {w1 w2 : World} {M : Dom} {B : Nat → Prop} {d l mb n : Nat} {lv : Int} {N i : Nat} {s : DS} {L : LS} (h : Wet w1 M B d l mb n lv N i s L) (hi : 2 * i + 2 ≤ lv) (hlv : lv ≤ 4096) (B2 : Below w1.heap.size w1 w2) (g : Nat) (k : Int) (z : List Int) (hb : w2.heap[g]? = some (.cells (B8 z).toArray 5 (0, 0))) (hg : w1.heap.size ≤ g) (hz : z.length = 96) (hy : IsBytes z) (hk : 0 ≤ k ∧ k < homes n lv) :
    Calls Tryz.prog 33 #[.pointer (some ⟨l, 0, none⟩), .slice (some ⟨w2.heap.size, 0, none⟩) 1 1] (w2.alloc (.cells #[.int .i64 k, .slice (some ⟨g, 0, none⟩) 96 96] 63)) fun e w' => e = .returned (.int .i64 0) ∧ ∃ M' B' mb' s' L', LStep M B w1 M' B' w' ∧ Wet w' M' B' d l mb' n lv N (i + 1) s' L' := by
  have hlt := lt_of_blk hb
  obtain ⟨ok, hH⟩ := h.hw
  have hl := ok.l
  have hn1 := ok.n1
  have hlv2 := h.leaves
  have hn := h.n
  have hr := h.round
  have hu := h.used
  have hup := h.up
  have hla := h.last
  have okr := ok.r
  have kB := B2.alloc B2.size (.cells #[.int .i64 k, .slice (some ⟨g, 0, none⟩) 96 96] 63)
  have hE : EntsAt (w2.alloc (.cells #[.int .i64 k, .slice (some ⟨g, 0, none⟩) 96 96] 63)) (inD M) (some ⟨w2.heap.size, 0, none⟩) 1 [(k, z)] :=
    ents_one (blk_new _ _) (((Below.refl _ _).alloc (Nat.le_refl _) _).block g hlt |>.trans hb) hz hy (by unfold homes at hk; omega) (h.sys.free B2.size) (h.sys.free hg)
  have hm := mayE_one (H := homes n lv) hk hz
  have h2 : leavesN ([(k, z)] : List Ent).length = 2 := (by decide : leavesN ((1 : Nat) : Int) = 2)
  obtain ⟨P, f, fl⟩ := h.full
  have hbz : ∀ x ∈ [(k, z)], IsBytes x.2 := fun x hx => by
    obtain rfl : x = (k, z) := by simpa using hx
    exact hy
  have frd := fl.rb
  refine (write_any (h.below kB).sys ok (by omega) (by omega) _ 1 1 _ hE (by omega)).mono ?_
  obtain ⟨L', s', e1, f', fl', e2, e3, e4, e5, e6, -, e8, -⟩ := f.writeFloat fl (el := [(k, z)]) ⟨by rw [hH]; exact hm, by rw [hH]; unfold homes; omega, by show 1 ≤ 600; omega⟩ hbz (by rw [h2]; omega) (by omega)
  rintro e w' ⟨rfl, M', B', mb', SY, LT⟩
  rw [e1] at SY ⊢
  have hp2 : postN [(k, z)] = 2 := by unfold postN; rw [h2]; rfl
  refine ⟨rfl, M', B', mb', s', L', (LStep.of_below kB).trans LT, ⟨SY, ⟨_, f', fl'⟩, e6.trans hn, e3.trans hlv2, by rw [e5, h2, hu]; push_cast; omega, by rw [e8, hp2]; omega, by rw [e4, hla]; push_cast; rfl, by rw [e2]; exact hr⟩⟩
/-- what stands on a drum behind a fall -/
def Fell (w : World) (M : Dom) (d n : Nat) (lv : Int) (N : Nat) : Prop := ∃ s r P, DrumAt w M d s ∧ Rest s r lv P ∧ s.n = n ∧ r ≤ 2 + N
theorem Fell.below {w w' : World} {M : Dom} {d n : Nat} {lv : Int} {N : Nat} (h : Fell w M d n lv N) (k : Below w.heap.size w w') : Fell w' M d n lv N := by
  obtain ⟨s, r, P, h1, h2⟩ := h
  exact ⟨s, r, P, h1.below k, h2⟩
theorem fallWet {w : World} {M : Dom} {B : Nat → Prop} {d l mb n : Nat} {lv : Int} {N k : Nat} {s : DS} {L : LS} (h : Wet w M B d l mb n lv N k s L) (ka : Option Addr) (kl kc : Nat) (keep : List Int) (torn cut : Int) (hK : IntsAt w ka kl kc keep) (hKM : 0 < kl → ¬ M (sB ka)) :
    Calls Tryz.prog 35 #[.pointer (some ⟨d, 0, none⟩), .slice ka kl kc, .int .i64 torn, .int .i64 cut] w fun e w' => e = .returned (.tuple #[]) ∧ ∃ M', Fell w' M' d n lv N ∧ Step M w M' w' := by
  obtain ⟨P, f, fl⟩ := h.full
  refine (fall_any h.sys.drum ka kl kc keep torn cut hK hKM).mono ?_
  rintro e w' ⟨rfl, M', D', S'⟩
  obtain ⟨p, -, -, R, -⟩ := fl.fall keep torn cut
  have R2 : Rest (s.fall keep torn cut) L.round lv (P.take p) := h.leaves ▸ R
  exact ⟨rfl, M', ⟨_, L.round, _, D', R2, h.n, h.round⟩, S'⟩
theorem openFell {w : World} {M : Dom} {d n : Nat} {lv : Int} {N : Nat} (h : Fell w M d n lv N) (hN : N ≤ 200) :
    Calls Tryz.prog 23 #[.pointer (some ⟨d, 0, none⟩)] w fun e w' => ∃ M' B' l' mb' s' L' V, e = .returned (.tuple #[.pointer (some ⟨l', 0, none⟩), .int .i64 0]) ∧ LStep M none' w M' B' w' ∧ Live w' M' B' d l' mb' n lv (N + 1) V s' L' ∧ Quiet s' ∧ L'.used = 0 := by
  obtain ⟨s, r, P, hd, R, hn, hr⟩ := h
  have hl := R.l
  obtain ⟨s', L', h1, h2, h3, h4, h5, h6, h7, h8, h9, h10, -⟩ := R.openL
  refine (open_any hd (by omega) R.n (by rw [R.quiet]; exact Nat.succ_pos _)).mono ?_
  rintro e w' (⟨-, M', B', l', mb', rfl, SY, LT⟩ | ⟨hx, -⟩)
  · rw [h1] at SY
    exact ⟨M', B', l', mb', _, _, _, rfl, LT, ⟨SY, ⟨[], h2⟩, h7.trans hn, h4, by show s'.up.length ≤ _; rw [h9]; exact Nat.zero_le _, by show L'.round ≤ _; omega, by show L'.last ≤ _; omega, h10⟩, ⟨h8, h9⟩, h5⟩
  · rw [h1] at hx
    exact absurd rfl hx

theorem few5_ints (a : Option Addr) (len cap n : Nat) (zs : List Int) (w : World) (h : IntsAt w a len cap zs) (hz : IsNums zs) (hn : 0 < n ∧ n ≤ 1000) :
    Calls Tryz.prog 36 #[.slice a len cap, .int .i64 (n : Int)] w fun e w' => ∃ fa fl fc ys, e = .returned (.slice fa fl fc) ∧ IntsAt w' fa fl fc ys ∧ (0 < fl → w.heap.size ≤ sB fa) ∧ Below w.heap.size w w' := by
  refine (few5_any a len cap n zs w h hz hn).mono ?_
  rintro e w' ⟨o, ys, rfl, ow, hl, hB⟩
  obtain ⟨fa, fc, rfl, h1, h2, h3, h4, h5, h6⟩ := row_of_owns ow
  refine ⟨fa, _, fc, ys, rfl, ⟨h4, rfl, fun e => ?_, by omega⟩, fun h0 => (h5 h0).1, hB⟩
  subst e
  obtain ⟨k1, k2⟩ := ow
  rcases k2 with ⟨e1, e2⟩ | ⟨g, cap, cur, e1, -⟩
  · simp only [Value.slice.injEq] at e1
    exact ⟨e1.2.1, e1.2.2⟩
  · simp at e1

end Go.Proofs.YtddcggdbnhmoiaaGreat
