/- VaultFills: the walk -/
import Derived.Test.YtleoelhhndeheaaGreatVltV
import Derived.Test.YtleoelhhndeheaaGreatHand
open Go Go.RowKit
namespace Go.Proofs.YtleoelhhndeheaaGreat

theorem hid' {p : Prop} (h : p) : Hid p := h
theorem filter_flip {p q : Int → Bool} {a : Int} (hp : p a = false) (hq : q a = true) (he : ∀ x, x ≠ a → q x = p x) : ∀ l : List Int, l.Nodup → a ∈ l → (l.filter q).length = (l.filter p).length + 1
  | [], _, h => by cases h
  | b :: r, hn, h => by
    have h2 := List.nodup_cons.1 hn
    by_cases e : b = a
    · subst e
      have hr : r.filter q = r.filter p := List.filter_congr fun x hx => he x (fun e => h2.1 (e ▸ hx))
      rw [List.filter_cons_of_pos hq, List.filter_cons_of_neg (by rw [hp]; simp), hr, List.length_cons]
    · have ih := filter_flip hp hq he r h2.2 (by rcases List.mem_cons.1 h with h | h
                                                 · exact absurd h.symm e
                                                 · exact h)
      by_cases hb : p b = true
      · rw [List.filter_cons_of_pos (by rw [he b e]; exact hb), List.filter_cons_of_pos hb, List.length_cons, List.length_cons, ih]
      · rw [List.filter_cons_of_neg (by rw [he b e]; exact hb), List.filter_cons_of_neg hb, ih]
theorem idsOf_put {R : Rcs} {id : Int} (hid' : 1 ≤ id ∧ id ≤ 40) (h : R id = none) (x : List Int × List Int) : (idsOf (R.put id x)).length = (idsOf R).length + 1 :=
  filter_flip (a := id) (by simp [h]) (by unfold Rcs.put; simp) (fun y hy => by unfold Rcs.put; rw [if_neg hy]) ids40 ids40_nodup (mem_ids40.2 hid')
theorem idsOf_drop {R : Rcs} {id : Int} (hid' : 1 ≤ id ∧ id ≤ 40) (h : (R id).isSome) : (idsOf R).length = (idsOf (R.drop id)).length + 1 :=
  filter_flip (a := id) (by unfold Rcs.drop; simp) h (fun y hy => by unfold Rcs.drop; rw [if_neg hy]) ids40 ids40_nodup (mem_ids40.2 hid')
theorem usedOf_drop (R : Rcs) (id : Int) : ∀ l : List Int, l.Nodup → id ∈ l → usedOf (R.drop id) l + (R.trks id).length = usedOf R l := by
  intro l hn hm
  have e : ∀ k, (R.drop id).trks k = (R.put id ([], [])).trks k := fun k => by
    unfold Rcs.trks Rcs.drop Rcs.put
    by_cases h : k = id
    · simp [h]
    · simp [h]
  have e2 : ∀ l : List Int, usedOf (R.drop id) l = usedOf (R.put id ([], [])) l := by
    intro l
    induction l with
    | nil => rfl
    | cons a r ih =>
      show usedOf (R.drop id) r + ((R.drop id).trks a).length = usedOf (R.put id ([], [])) r + ((R.put id ([], [])).trks a).length
      rw [ih, e]
  have := usedOf_put R id ([], []) l hn hm
  rw [e2]
  simpa using this
theorem used_drop (R : Rcs) {id : Int} (hid' : 1 ≤ id ∧ id ≤ 40) : (R.drop id).used + (R.trks id).length = R.used := usedOf_drop R id ids40 ids40_nodup (mem_ids40.2 hid')

/-- a vault of n records, each on so many tracks -/
structure FS (R : Rcs) (n need : Nat) : Prop where
  used : R.used = 1 + n * need
  ids : (idsOf R).length = n
  tr : ∀ i x, R i = some x → x.2.length = need
theorem FS.put {R : Rcs} {n need H : Nat} (h : FS R n need) (ok : RcsOk R H) (h0 : 0 < H) (hH : H ≤ 4096) {id : Int} (hid' : 1 ≤ id ∧ id ≤ 40) (hn : R id = none) {b : List Int} (hb : takes b.length = need) (hf : need + (1 + n * need) ≤ H) : FS (R.putB id b) (n + 1) need := by
  have ht : (R.trks id).length = 0 := by rw [trks_none hn]; rfl
  have hu := used_putB ok h0 hH hid' (b := b) (by rw [hb, h.used, ht]; omega)
  rw [ht, h.used, hb] at hu
  refine ⟨by rw [Nat.succ_mul]; omega, by unfold Rcs.putB; rw [idsOf_put hid' hn, h.ids], fun i x hx => ?_⟩
  unfold Rcs.putB Rcs.put at hx
  by_cases e : i = id
  · rw [if_pos e] at hx
    cases hx
    have := (nextT_spec ok h0 hH (id := id) (n := b.length) (by rw [hb, h.used, ht]; omega)).1
    simp only
    rw [this, hb]
  · rw [if_neg e] at hx
    exact h.tr i x hx
theorem FS.drop {R : Rcs} {n need : Nat} (h : FS R (n + 1) need) {id : Int} (hid' : 1 ≤ id ∧ id ≤ 40) {x : List Int × List Int} (hx : R id = some x) : FS (R.drop id) n need := by
  have hu := used_drop R hid'
  rw [trks_of hx, h.tr id x hx, h.used, Nat.succ_mul] at hu
  have hi := idsOf_drop hid' (show (R id).isSome by rw [hx]; rfl)
  rw [h.ids] at hi
  refine ⟨by omega, by omega, fun i y hy => ?_⟩
  unfold Rcs.drop at hy
  by_cases e : i = id
  · rw [if_pos e] at hy; cases hy
  · rw [if_neg e] at hy; exact h.tr i y hy

set_option maxRecDepth 100000 in
set_option maxHeartbeats 16000000 in
theorem vaultFills_any (sz0 : Int) (a : Option Addr) (len cap : Nat) (zs : List Int) (w : World) (hs : -9223372036854775808 ≤ sz0 ∧ sz0 ≤ 9223372036854775807) (h : Ints w a len zs) :
    Calls Tryz.prog 7 #[.int .i64 sz0, .slice a len cap] w fun e w' => e = .returned (.bool true) ∧ Below w.heap.size w w' := by
  have HI := hid h
  have hix := fun k (hk : k < len) => idx_at1 (P := Tryz.prog) (T := 33) Tryz.underlying33 szI (cap := cap) (a := a) h.nn hk
  clear h
  have PN := fun W => pick_any sz0 700 W hs (by omega) (by omega)
  obtain ⟨p, hp⟩ : ∃ p, sz0 % 700 = p := ⟨_, rfl⟩
  rw [hp] at PN
  obtain ⟨sz, rfl⟩ : ∃ q : Nat, p = q := ⟨p.toNat, by omega⟩
  have hsz : sz < 700 := by omega
  clear hp
  obtain ⟨need, hnd⟩ : ∃ need, takes sz = need := ⟨_, rfl⟩
  have hn9 : 1 ≤ need ∧ need ≤ 9 := by rw [← hnd]; unfold takes; omega
  have hneed : max (1 : Int) (((sz : Int) + 79) / 80) = (need : Int) := by rw [← hnd]; unfold takes; omega
  have HND := hid hnd
  obtain ⟨qq, hqq⟩ : ∃ qq, 27 / need = qq := ⟨_, rfl⟩
  have hqi : (27 : Int) / (need : Int) = (qq : Int) := by rw [← hqq]; simp
  have hqb : qq ≤ 27 := by rw [← hqq]; exact Nat.div_le_self _ _
  have hfit : ∀ n, n * need + need ≤ 27 ↔ n + 1 ≤ qq := fun n => by
    rw [← hqq, Nat.le_div_iff_mul_le (by omega), Nat.succ_mul]
  have HFIT := hid hfit
  have mk := fun W => mkU (n := sz) (by omega) W
  clear hnd hqq hfit
  go_enter Tryz.func7, Tryz.ntmps7
  go_wp2_with fail
  refine (known6_any w).mono ?_
  rintro e w1 ⟨rfl, B1⟩
  have HB1 := hid B1
  clear B1
  go_wp2_with fail
  refine (found6_any 70 40 w1 (by omega) (by omega) (by decide) (by decide)).mono ?_
  rintro e w2 ⟨M, B, C, d, l, mb, v, s, L, V, rfl, VL, -, SI⟩
  have HVL := hid VL
  have HSI := hid SI
  clear VL SI
  go_wp2_with fail
  refine (known6_any w2).mono ?_
  rintro e w3 ⟨rfl, B3⟩
  have HVL3 := hid (HVL.out.below B3)
  have HSI3 := hid (HSI.out.to B3)
  clear B3 HVL HSI
  go_wp2_with fail
  refine (PN w3).mono ?_
  rintro e w4 ⟨rfl, rfl⟩
  clear PN
  have eH : homes 70 40 = 28 := by decide
  have FR := freeV_any HVL3.out.vs HVL3.out.live.ok.lv (HVL3.out.live.H.trans eH) (RcsOk.none 28)
  rw [used_none, show ((28 : Nat) : Int) - ((1 : Nat) : Int) = 27 by decide] at FR
  go_wp2_with fail
  refine FR.mono ?_
  rintro e w5 ⟨rfl, B5⟩
  clear FR
  have HVL5 := hid (HVL3.out.below B5)
  have HSI5 := hid (HSI3.out.to B5)
  clear B5 HVL3 HSI3
  go_wp2_with fail
  go_loopw [9, 10] (fun u9 u10 wr => ∃ (j n : Nat) (R : Rcs), u9 = .int .i64 n ∧ u10 = .int .i64 ((j : Int) + 1) ∧ j ≤ 40 ∧ n ≤ 27 ∧ Hid (VLive wr M B C d l mb v 70 40 3 V s L R noRcs) ∧ Hid (FS R n need) ∧ Hid (∀ i, (j : Int) < i → R i = none) ∧ Hid (n = min j qq) ∧ Hid (Since w1 wr M (fun q => B q ∨ C q))) (fun _ u10 _ => 42 - (intOf u10).toNat)
  case atStart => exact ⟨0, 0, noRcs, rfl, rfl, Nat.zero_le _, Nat.zero_le _, HVL5, hid' ⟨by rw [used_none]; simp, by decide, nofun⟩, hid' (fun _ _ => rfl), hid' (by simp), HSI5⟩
  case round =>
    obtain ⟨j, n, R, rfl, rfl, hj, hn27, VLk, FSk, RN, NM, SIk⟩ := hrel
    obtain ⟨nm, hnm⟩ : ∃ nm, n * need = nm := ⟨_, rfl⟩
    have hnmi : (n : Int) * (need : Int) = (nm : Int) := by rw [← hnm]; simp
    have HNM := hid' hnm
    have okR : RcsOk R 28 := by have := VLk.out.okn; rw [eH] at this; exact this
    have OKR := hid' okR
    have hus := hid' (show R.used = 1 + nm by rw [FSk.out.used, hnm])
    have hq1 := hid' (show nm + need ≤ 27 ↔ n + 1 ≤ qq by rw [← hnm]; exact HFIT.out n)
    have hnmb : nm ≤ 27 := by
      have h1 := used_le okR (by omega)
      have h2 := hus.out
      omega
    clear hnm okR
    by_cases hj40 : j < 40
    · obtain ⟨wz, hwz⟩ : ∃ wz, wr.alloc (.cells (Array.replicate sz (.int .u8 0)) 5) = wz := ⟨_, rfl⟩
      have BZ : Below wr.heap.size wr wz := by rw [← hwz]; exact (Below.refl _ _).alloc (Nat.le_refl _) _
      have rz : Row wz (some ⟨wr.heap.size, 0, none⟩) (B8 (List.replicate sz 0)) := by rw [← hwz]; have := row_at wr (Array.replicate sz (.int .u8 0)) 5 rfl; simpa [B8] using this
      have mkr := mk wr
      have hRn := RN.out ((j : Int) + 1) (by omega)
      have PU := putV_any (VLk.out.vs.below BZ) VLk.out.live.ok.lv (VLk.out.live.H.trans eH) OKR.out ((j : Int) + 1) (by omega) (some ⟨wr.heap.size, 0, none⟩) sz sz (List.replicate sz 0) rz (by simp) (by omega) (fun h => by cases h) (fun n hn => by rw [List.eq_of_mem_replicate hn]; decide)
      have HC := hid' (show putC R 28 L.lost ((j : Int) + 1) (List.replicate sz (0 : Int)).length = if 28 < need + (1 + nm) then 3 else 0 by
        unfold putC
        rw [VLk.out.lost, List.length_replicate, if_neg (by omega), if_neg (by simp), trks_none hRn, HND.out, hus.out]
        rfl)
      have BZH := hid' BZ
      have HRN := hid' hRn
      clear BZ rz hRn
      by_cases hfull : nm + need ≤ 27
      · have i1 : decide ((need : Int) ≤ 27 - (nm : Int)) = true := decide_eq_true (by omega)
        have EC := hid' (show putC R 28 L.lost ((j : Int) + 1) (List.replicate sz (0 : Int)).length = 0 by rw [HC.out, if_neg (by omega)])
        go_wp2_with fail
        refine PU.mono ?_
        rintro e w6 ⟨rfl, VS6, T6⟩
        clear PU
        rw [EC.out]
        have VL6 := hid' (show VLive w6 M B C d l mb v 70 40 3 V s L (R.putB ((j : Int) + 1) (List.replicate sz 0)) noRcs from (VLk.out.below BZH.out).own (by
          unfold Rcs.putted at VS6
          rw [EC.out, if_pos rfl] at VS6
          exact VS6) (by
          have h := putted_ok (lost := L.lost) (id := (j : Int) + 1) (b := List.replicate sz 0) OKR.out (by omega) (by omega) (fun n hn => by rw [List.eq_of_mem_replicate hn]; decide)
          unfold Rcs.putted at h
          rw [EC.out, if_pos rfl] at h
          rw [eH]; exact h))
        have SI6 := hid' ((SIk.out.to BZH.out).lstep (T6.vault (B := B)))
        have FS6 := hid' (FSk.out.put OKR.out (by omega) (by omega) (id := (j : Int) + 1) (by omega) HRN.out (b := List.replicate sz 0) (by rw [List.length_replicate]; exact HND.out) (by rw [HNM.out]; omega))
        clear VS6 T6
        go_wp2_with fail
        go_roundw
        case measure => first | (simp [intOf]; done) | (simp [intOf]; omega)
        case rel =>
          refine ⟨j + 1, n + 1, _, by go_num, by go_num, by omega, ?_, VL6, FS6, hid' (fun i hi => ?_), hid' ?_, SI6⟩
          · have := hq1.out.1 hfull; omega
          · unfold Rcs.putB Rcs.put
            rw [if_neg (by omega)]
            exact RN.out i (by omega)
          · have := hq1.out.1 hfull
            have := NM.out
            omega
      · have i1 : decide ((need : Int) ≤ 27 - (nm : Int)) = false := decide_eq_false (by omega)
        have EC := hid' (show putC R 28 L.lost ((j : Int) + 1) (List.replicate sz (0 : Int)).length = 3 by rw [HC.out, if_pos (by omega)])
        go_wp2_with fail
        refine PU.mono ?_
        rintro e w6 ⟨rfl, VS6, T6⟩
        clear PU
        rw [EC.out]
        have VL6 := hid' (show VLive w6 M B C d l mb v 70 40 3 V s L R noRcs from (VLk.out.below BZH.out).own (by
          unfold Rcs.putted at VS6
          rw [EC.out, if_neg (by omega)] at VS6
          exact VS6) VLk.out.okn)
        have SI6 := hid' ((SIk.out.to BZH.out).lstep (T6.vault (B := B)))
        clear VS6 T6
        go_wp2_with fail
        go_roundw
        case measure => first | (simp [intOf]; done) | (simp [intOf]; omega)
        case rel =>
          refine ⟨j + 1, n, R, by go_num, by go_num, by omega, hn27, VL6, FSk, hid' (fun i hi => RN.out i (by omega)), hid' ?_, SI6⟩
          have h1 : ¬ (n + 1 ≤ qq) := fun h => hfull (hq1.out.2 h)
          have := NM.out
          omega
    · obtain rfl : j = 40 := by omega
      have hnq : n = qq := by have := NM.out; omega
      have hmin : min (40 : Int) (qq : Int) = (n : Int) := by omega
      have FR6 := freeV_any VLk.out.vs VLk.out.live.ok.lv (VLk.out.live.H.trans eH) OKR.out
      rw [show ((28 : Nat) : Int) - ((R.used : Nat) : Int) = 27 - (nm : Int) by rw [hus.out]; omega] at FR6
      clear hnq
      go_wp2_with fail
      refine FR6.mono ?_
      rintro e w6 ⟨rfl, B6⟩
      clear FR6
      have VL6 := hid' (VLk.out.below B6)
      have SI6 := hid' (SIk.out.to B6)
      clear B6
      have ID6 := idsV_any VL6.out.vs VL6.out.okn
      rw [FSk.out.ids] at ID6
      go_wp2_with fail
      refine ID6.mono ?_
      rintro e w7 ⟨u7, rfl, o7, B7⟩
      obtain ⟨a7, c7, rfl⟩ := owns_slice o7
      have VL7 := hid' (VL6.out.below B7)
      have SI7 := hid' (SI6.out.to B7)
      clear ID6 o7 B7 VL6 SI6
      go_wp2_with fail
      go_loopw [9, 12] (fun u9 u12 wr => ∃ (n i : Nat) (R : Rcs), u9 = .int .i64 n ∧ u12 = .int .i64 i ∧ n + i ≤ 27 ∧ Hid (VLive wr M B C d l mb v 70 40 3 V s L R noRcs) ∧ Hid (FS R n need) ∧ Hid (Since w1 wr M (fun q => B q ∨ C q))) (fun u9 _ _ => (intOf u9).toNat)
      case atStart => exact ⟨n, 0, R, rfl, rfl, by omega, VL7, FSk, SI7⟩
      case round =>
        clear VLk FSk RN NM SIk HNM OKR hus hq1 VL7 SI7
        obtain ⟨n, i, R, rfl, rfl, hni, VLk, FSk, SIk⟩ := hrel
        rcases n with _ | n
        · have FR8 := freeV_any VLk.out.vs VLk.out.live.ok.lv (VLk.out.live.H.trans eH) (by have := VLk.out.okn; rw [eH] at this; exact this)
          rw [FSk.out.used, show ((28 : Nat) : Int) - (((1 + 0 * need : Nat) : Nat) : Int) = 27 by omega] at FR8
          go_wp2_with fail
          refine FR8.mono ?_
          rintro e w8 ⟨rfl, B8'⟩
          clear FR8
          have VL8 := hid' (VLk.out.below B8')
          have SI8 := hid' (SIk.out.to B8')
          clear B8'
          have ID8 := idsV_any VL8.out.vs VL8.out.okn
          rw [FSk.out.ids] at ID8
          go_wp2_with fail
          refine ID8.mono ?_
          rintro e w9 ⟨u9, rfl, o9, B9⟩
          obtain ⟨a9, c9, rfl⟩ := owns_slice o9
          have SI9 := hid' (SI8.out.to B9)
          clear ID8 o9 B9
          go_wp2_with fail
          go_ret
          exact ⟨rfl, HB1.out.trans (SI9.out.below.mono HB1.out.size)⟩
        · have ID6 := idsV_any VLk.out.vs VLk.out.okn
          rw [FSk.out.ids] at ID6
          go_wp2_with fail
          refine ID6.mono ?_
          rintro e w6 ⟨u6, rfl, o6, B6⟩
          clear ID6
          obtain ⟨ua, uc, rfl, hul, -, -, urow, -, -⟩ := row_of_owns o6
          have hix2 := fun k (hk : k < n + 1) => idx_at1 (P := Tryz.prog) (T := 33) Tryz.underlying33 szI (cap := uc) (a := ua) (fun _ => urow.nn (by rw [hul]; omega)) hk
          have R6 := hid' urow
          have VL6 := hid' (VLk.out.below B6)
          have SI6 := hid' (SIk.out.to B6)
          clear o6 B6 hul urow VLk SIk
          by_cases hil : i < len
          · have hixi := hix i hil
            have bz := HI.out.get hil
            have BWW := hid' (HB1.out.trans (SI6.out.below.mono HB1.out.size))
            have cz : w6.cell? ⟨sB a, sO a + i, none⟩ = some (.int .i64 (zs[i]?.getD 0)) := (HI.out.below BWW.out (Nat.le_refl _)).cell i hil
            obtain ⟨y, hy⟩ : ∃ y, zs[i]?.getD 0 = y := ⟨_, rfl⟩
            rw [hy] at cz bz
            have PK := pick_any y (((n + 1 : Nat) : Nat) : Int) w6 bz (by omega) (by omega)
            obtain ⟨kk, hkk⟩ : ∃ kk, y % (((n + 1 : Nat) : Nat) : Int) = kk := ⟨_, rfl⟩
            have hkb : 0 ≤ kk ∧ kk < (((n + 1 : Nat) : Nat) : Int) := by rw [← hkk]; exact ⟨Int.emod_nonneg _ (by omega), Int.emod_lt_of_pos _ (by omega)⟩
            rw [hkk] at PK
            obtain ⟨k, rfl⟩ : ∃ k : Nat, kk = k := ⟨kk.toNat, by omega⟩
            have hkn : k < n + 1 := by omega
            clear hkk hy
            go_wp2_with fail
            refine PK.mono ?_
            rintro e w6' ⟨rfl, rfl⟩
            clear PK
            have hkm : k < (idsOf R).length := by rw [FSk.out.ids]; exact hkn
            obtain ⟨id, hidk⟩ : ∃ id, (idsOf R)[k]? = some id := ⟨_, List.getElem?_eq_getElem hkm⟩
            have hix3 := hix2 k hkn
            have ck : w6.cell? ⟨sB ua, sO ua + k, none⟩ = some (.int .i64 id) := by
              have := R6.out.cell k (.int .i64 id) (by rw [I8, List.getElem?_map, hidk]; rfl)
              exact this
            have hmem := List.mem_filter.1 (List.mem_of_getElem? hidk)
            have hidb := mem_ids40.1 hmem.1
            obtain ⟨x, hx⟩ := Option.isSome_iff_exists.1 hmem.2
            have DR := dropV_any VL6.out.vs id (by omega)
            rw [hx] at DR
            have HX := hid' hx
            have HB := hid' hidb
            have hidb2 := HB.out
            clear hidk hmem hidb hix2
            go_wp2_with fail
            refine DR.mono ?_
            rintro e w7 ⟨rfl, VS7, T7⟩
            clear DR
            have VL7 := hid' (show VLive w7 M B C d l mb v 70 40 3 V s L (R.drop id) noRcs from VL6.out.own VS7 (VL6.out.okn.drop id))
            have SI7 := hid' (SI6.out.lstep (T7.vault (B := B)))
            have FS7 := hid' (FSk.out.drop HB.out HX.out)
            clear VS7 T7
            go_wp2_with fail
            go_roundw
            case measure => first | (simp [intOf]; done) | (simp [intOf]; omega)
            case rel => exact ⟨n, i + 1, R.drop id, by go_num, by go_num, by omega, VL7, FS7, SI7⟩
          · have hkm : 0 < (idsOf R).length := by rw [FSk.out.ids]; omega
            obtain ⟨id, hidk⟩ : ∃ id, (idsOf R)[0]? = some id := ⟨_, List.getElem?_eq_getElem hkm⟩
            have hix3 : ∀ W, (Instr.indexAt 33 (.slice ua (n + 1) uc) (.int .i64 0)).run Tryz.prog W = .ok (.pointer (some ⟨sB ua, sO ua, none⟩)) W := fun W => by have := hix2 0 (by omega) W; simpa using this
            have ck : w6.cell? ⟨sB ua, sO ua, none⟩ = some (.int .i64 id) := by
              have := R6.out.cell 0 (.int .i64 id) (by rw [I8, List.getElem?_map, hidk]; rfl)
              simpa using this
            have hmem := List.mem_filter.1 (List.mem_of_getElem? hidk)
            have hidb := mem_ids40.1 hmem.1
            obtain ⟨x, hx⟩ := Option.isSome_iff_exists.1 hmem.2
            have DR := dropV_any VL6.out.vs id (by omega)
            rw [hx] at DR
            have HX := hid' hx
            have HB := hid' hidb
            have hidb2 := HB.out
            clear hidk hmem hidb hix2
            go_wp2_with fail
            refine DR.mono ?_
            rintro e w7 ⟨rfl, VS7, T7⟩
            clear DR
            have VL7 := hid' (show VLive w7 M B C d l mb v 70 40 3 V s L (R.drop id) noRcs from VL6.out.own VS7 (VL6.out.okn.drop id))
            have SI7 := hid' (SI6.out.lstep (T7.vault (B := B)))
            have FS7 := hid' (FSk.out.drop HB.out HX.out)
            clear VS7 T7
            go_wp2_with fail
            go_roundw
            case measure => first | (simp [intOf]; done) | (simp [intOf]; omega)
            case rel => exact ⟨n, i + 1, R.drop id, by go_num, by go_num, by omega, VL7, FS7, SI7⟩

end Go.Proofs.YtleoelhhndeheaaGreat
