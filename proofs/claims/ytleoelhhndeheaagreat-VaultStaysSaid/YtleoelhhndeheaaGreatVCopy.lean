import Derived.Test.YtleoelhhndeheaaGreatProg
import Derived.Test.YtleoelhhndeheaaGreatSlB
import Derived.Test.YtleoelhhndeheaaGreatStepRow
import Derived.Test.YtleoelhhndeheaaGreatVltV
import Derived.Lib.SlKeysI
import Derived.Deep.QuietTactic
import Derived.BigQuiet
import Derived.Test.YtleoelhhndeheaaGreatDrum7
import Derived.Test.YtleoelhhndeheaaGreatIRow
import Derived.Test.YtleoelhhndeheaaGreatIntsArg
import Derived.ProofKit
import Derived.Deep.SlicePairs
import Derived.ChangeArms
import Derived.Test.YtleoelhhndeheaaGreatAppRow
import Derived.Laws.IdiomStrings
/- lariathand.Few -/
open Go Go.RowKit
namespace Go.Proofs.YtleoelhhndeheaaGreat

set_option maxHeartbeats 1000000 in
theorem few_anyL (a : Option Addr) (len cap n : Nat) (zs : List Int) (w : World) (h : Row w a (B8 zs)) (hl : zs.length = len) (hn : a = none → len = 0 ∧ cap = 0) (hlc : len ≤ cap) (hcm : cap ≤ 9223372036854775807) (hn2 : n ≤ 140737488355328) :
    Calls Tryz.prog 44 #[.slice a len cap, .int .i64 n] w fun e w' => ∃ v, e = .returned v ∧ w'.ownsRow w.heap.size 5 1 v (min len n) (B8 (zs.take n)) ∧ Below w.heap.size w w' := by
  obtain ⟨i0, hi, hz0, hz1, hz2⟩ := info_parts iB
  have hown : (w.alloc (.cells #[] 5)).ownsRow w.heap.size 5 1 (.slice (some ⟨w.heap.size, 0, none⟩) 0 0) 0 [] := World.ownsRow_lit w #[] 0 (Nat.le_refl _) (by simp [maxLen]) rfl
  cases a with
  | none =>
    obtain ⟨rfl, rfl⟩ := hn rfl
    have : zs = [] := List.eq_nil_of_length_eq_zero hl
    subst this
    clear hl
    go_enter Tryz.func44, Tryz.ntmps44
    go_wp2_with (at_builtin; refine wpList_append_own_none rfl _ _ 27 rfl w.heap.size 5 i0 1 Tryz.underlying27 hi _ _ _ rfl hown rfl ?_)
    go_ret
    exact ⟨_, rfl, by simpa using hown, (Below.refl _ _).alloc (Nat.le_refl _) _⟩
  | some x =>
    obtain ⟨m, hm, hm1, hm2⟩ : ∃ m, min len n = m ∧ m ≤ len ∧ m ≤ n := ⟨_, rfl, by omega, by omega⟩
    have hmi : min (len : Int) (n : Int) = (m : Int) := by omega
    have hrow : Row w (some x) (B8 (zs.take n)) := by rw [B8, List.map_take]; exact h.take n
    have hnews := fun o => (hrow.alloc o).news
    have hlen : (B8 (zs.take n)).length = m * 1 := by simp; omega
    rw [hm]
    clear hm hl
    go_enter Tryz.func44, Tryz.ntmps44
    go_wp2_with (at_builtin; refine wpList_append_own _ rfl _ _ 27 rfl w.heap.size 5 i0 (.int .u8 0) 1 1 Tryz.underlying27 hi hz0 hz1 hz2 rfl (by decide) _ 0 [] rfl hown x m cap (B8 (zs.take n)) rfl hlen (hnews _) (B8_one _) ?c3 ?c4 ?c5 ?_)
    case c3 => simp only [maxLen]; omega
    case c4 => omega
    case c5 => simp
    intro v' w1 ho hg _
    have hB : Below w.heap.size w w1 := ((Below.refl _ _).alloc (Nat.le_refl _) _).grown hg (by simp) (by rintro k hk; cases hk; exact Nat.le_refl _)
    clear hg
    go_wp2_with fail
    go_ret
    exact ⟨_, rfl, by rw [B8, List.map_take]; exact ho, hB⟩
theorem few_any (a : Option Addr) (len cap n : Nat) (zs : List Int) (w : World) (h : Row w a (B8 zs)) (hl : zs.length = len) (hn : a = none → len = 0 ∧ cap = 0) (hlc : len ≤ cap) (hcm : cap ≤ 9223372036854775807) (_hb : len ≤ 140737488355328) (hn2 : n ≤ 140737488355328) :
    Calls Tryz.prog 44 #[.slice a len cap, .int .i64 n] w fun e w' => ∃ v, e = .returned v ∧ w'.ownsRow w.heap.size 5 1 v (min len n) (B8 (zs.take n)) ∧ Below w.heap.size w w' := few_anyL a len cap n zs w h hl hn hlc hcm hn2

end Go.Proofs.YtleoelhhndeheaaGreat

/- the laws of package vault: maps of texts by number; are a vault's records just these? -/
open Go Go.RowKit
open Go.Maps (Keyed has)
namespace Go.Proofs.YtleoelhhndeheaaGreat

/-- texts of bytes, by number, as values -/
def strM (D : Int → Option (List Int)) : Int → Option Value := fun k => (D k).map fun b => .string (strOfNums b)
/-- the bytes of the records -/
def Rcs.data (R : Rcs) : Int → Option (List Int) := fun k => (R k).map (·.1)
/-- texts that may be a vault's -/
structure DOk (D : Int → Option (List Int)) : Prop where
  id : ∀ i b, D i = some b → 1 ≤ i ∧ i ≤ 40
  b : ∀ i b, D i = some b → b.length ≤ 60000 ∧ IsBytes b
theorem RcsOk.data {R : Rcs} {H : Nat} (ok : RcsOk R H) : DOk R.data := by
  refine ⟨fun i b h => ?_, fun i b h => ?_⟩
  all_goals
    unfold Rcs.data at h
    cases hR : R i with
    | none => rw [hR] at h; cases h
    | some x =>
      rw [hR] at h
      obtain rfl : x.1 = b := by simpa using h
      first | exact ok.id i x hR | exact ok.b i x hR
theorem strM_some {D : Int → Option (List Int)} (i : Int) : (strM D i).isSome = (D i).isSome := by unfold strM; simp

/-- how many numbers have a text -/
def cnt (D : Int → Option (List Int)) : Nat := (ids40.filter fun i => (D i).isSome).length
theorem IMap.len {w : World} {b n : Nat} {T : Int → Option Value} (h : IMap w b n T) (hT : ∀ x, (T x).isSome → 1 ≤ x ∧ x ≤ 40) {t e : TypeId} (ht : Tryz.prog.underlying t = some (.map 3 e)) (ty : TypeId) :
    (Builtin.len_ #[t] ty #[.map (some b)]).run Tryz.prog w = .ok (.int .i64 (((ids40.filter fun i => (T i).isSome).length : Nat) : Int)) w := by
  obtain ⟨D, h1, h2, -⟩ := h.out
  rw [h1.len ht ty]
  obtain ⟨es, hD, hpw, _⟩ := h1.entries iK
  obtain ⟨es', hD', hko⟩ := h1.keysOf
  obtain rfl : es = es' := by rw [hD] at hD'; simpa using hD'
  subst hD
  have := perm_intKeys hpw (fun p hp => by obtain ⟨v, hv⟩ := hko p hp; obtain ⟨x, _, hx, _⟩ := Maps.keyOf_i64 Tryz.underlying3 hv; exact ⟨x, hx⟩) (ids40_nodup.filter (fun i => (T i).isSome)) (fun x => by
    rw [h2 x, List.mem_filter, mem_ids40]
    exact ⟨fun h => h.2, fun h => ⟨hT x h, h⟩⟩)
  rw [this.length_eq, show (intKeys (.map es)).length = es.length from List.length_map _]
  rfl

/-- what some records' tracks are -/
def takeL (D : Int → Option (List Int)) : List Int → Nat
  | [] => 0
  | i :: r => takes ((D i).getD []).length + takeL D r
theorem takeL_append (D : Int → Option (List Int)) : ∀ l m : List Int, takeL D (l ++ m) = takeL D l + takeL D m
  | [], m => by show takeL D m = 0 + takeL D m; omega
  | i :: r, m => by
    show takes _ + takeL D (r ++ m) = takes _ + takeL D r + takeL D m
    rw [takeL_append D r m]; omega
theorem usedOf_take {R : Rcs} {H : Nat} (ok : RcsOk R H) : ∀ l : List Int, usedOf R l = 1 + takeL R.data (l.filter fun i => (R i).isSome)
  | [] => rfl
  | i :: r => by
    show usedOf R r + (R.trks i).length = _
    rw [usedOf_take ok r]
    cases hR : R i with
    | none => rw [List.filter_cons_of_neg (by simp [hR]), trks_none hR]; rfl
    | some x =>
      rw [List.filter_cons_of_pos (by simp [hR]), trks_of hR, ok.len i x hR]
      show _ = 1 + (takes ((R.data i).getD []).length + _)
      have : R.data i = some x.1 := by unfold Rcs.data; rw [hR]; rfl
      rw [this]
      show 1 + _ + takes x.1.length = 1 + (takes x.1.length + _)
      omega
theorem used_take {R : Rcs} {H : Nat} (ok : RcsOk R H) : R.used = 1 + takeL R.data (idsOf R) := usedOf_take ok ids40
theorem idsOf_data (R : Rcs) : (idsOf R).length = cnt R.data := by
  unfold idsOf cnt Rcs.data
  simp
theorem idsOf_sorted (R : Rcs) : (idsOf R).Pairwise (· < ·) := by
  unfold idsOf
  refine List.Pairwise.filter _ ?_
  decide
/-- all of one are the other's, and there are as many: they are the same -/
theorem data_same {R : Rcs} {D : Int → Option (List Int)} (hD : ∀ i b, D i = some b → 1 ≤ i ∧ i ≤ 40) (h : ∀ i ∈ idsOf R, D i = R.data i) (hc : (idsOf R).length = cnt D) (hR : ∀ i, (R i).isSome → 1 ≤ i ∧ i ≤ 40) : ∀ i, D i = R.data i := by
  intro i
  by_cases hi : (R i).isSome
  · exact h i (List.mem_filter.2 ⟨mem_ids40.2 (hR i hi), hi⟩)
  · have e : R.data i = none := by
      unfold Rcs.data
      cases hr : R i with
      | none => rfl
      | some x => rw [hr] at hi; simp at hi
    rw [e]
    cases hd : D i with
    | none => rfl
    | some b =>
      exfalso
      have hsub := nodup_sub (i :: idsOf R) (ids40.filter fun i => (D i).isSome) (List.nodup_cons.2 ⟨fun hm => hi (List.mem_filter.1 hm).2, ids40_nodup.filter _⟩) (fun x hx => by
        rcases List.mem_cons.1 hx with rfl | hx
        · exact List.mem_filter.2 ⟨mem_ids40.2 (hD _ b hd), by rw [hd]; rfl⟩
        · have hm := List.mem_filter.1 hx
          refine List.mem_filter.2 ⟨hm.1, ?_⟩
          rw [h x hx]
          unfold Rcs.data
          have := hm.2
          simpa using this)
      unfold cnt at hc
      simp only [List.length_cons] at hsub
      omega

/-- are a vault's records just these texts? -/
def sameD (D : Int → Option (List Int)) (R : Rcs) : Bool := ids40.all fun i => decide (D i = R.data i)
theorem sameD_true {D : Int → Option (List Int)} {R : Rcs} (h : ∀ i, D i = R.data i) : sameD D R = true := by
  unfold sameD
  exact List.all_eq_true.2 fun i _ => decide_eq_true (h i)
theorem sameD_false {D : Int → Option (List Int)} {R : Rcs} {i : Int} (hi : 1 ≤ i ∧ i ≤ 40) (h : D i ≠ R.data i) : sameD D R = false := by
  unfold sameD
  exact List.all_eq_false.2 ⟨i, mem_ids40.2 hi, by simpa using h⟩
theorem sameD_of {D : Int → Option (List Int)} {R : Rcs} {H : Nat} (hD : DOk D) (ok : RcsOk R H) (h : sameD D R = true) : ∀ i, D i = R.data i := by
  intro i
  by_cases hi : i ∈ ids40
  · have := List.all_eq_true.1 h i hi
    simpa using this
  · have e1 : D i = none := by
      cases hd : D i with
      | none => rfl
      | some b => exact absurd (mem_ids40.2 (hD.id i b hd)) hi
    have e2 : R.data i = none := by
      cases hd : R.data i with
      | none => rfl
      | some b => exact absurd (mem_ids40.2 (ok.data.id i b hd)) hi
    rw [e1, e2]

end Go.Proofs.YtleoelhhndeheaaGreat

/- the laws of package vault: is -/
open Go Go.RowKit
open Go.Maps (Keyed has)
namespace Go.Proofs.YtleoelhhndeheaaGreat

theorem zS : ∃ z, ∀ w : World, (zeroValue 9).run Tryz.prog w = .ok z w := ⟨.string (strOfNums []), fun w => by kernel_rfl⟩

set_option maxRecDepth 100000 in
set_option maxHeartbeats 8000000 in
theorem is6_any {w : World} {M : Dom} {B C : Nat → Prop} {d l mb v : Nat} {s : DS} {L : LS} {now kept : Rcs} (h : VSys w M B C d l mb v s L now kept) (lv : L.Lv s) {H : Nat} (hH : L.H s = H) (ok : RcsOk now H) {m n : Nat} {D : Int → Option (List Int)} (hm : IMap w m n (strM D)) (hD : DOk D) :
    Calls Tryz.prog 23 #[.pointer (some ⟨v, 0, none⟩), .map (some m)] w fun e w' => e = .returned (.bool (sameD D now)) ∧ Below w.heap.size w w' := by
  have hl := lv.l
  have hn1 := lv.n1
  have hH4 : 2 ≤ H ∧ H ≤ 4095 := by unfold LS.H at hH; omega
  have hu := used_le ok (by omega)
  have HU := hid (used_take ok)
  have ID := idsV_any h ok
  have GE := hid (fun (W : World) (Bw : Below w.heap.size w W) id hid' => getV_any (h.below Bw) ok id hid')
  have FR := hid (fun (W : World) (Bw : Below w.heap.size w W) => freeV_any (h.below Bw) lv hH ok)
  have TR := hid (fun (W : World) (Bw : Below w.heap.size w W) => (tracksV_any (h.below Bw) lv).mono (R' := fun e w' => e = .returned (.int .i64 ((H : Nat) : Int)) ∧ Below W.heap.size W w') (fun e w' ⟨h1, h2⟩ => ⟨by rw [h1, hH], by rw [← h2]; exact Below.refl _ _⟩))
  have HM := hid (fun (W : World) (Bw : Below w.heap.size w W) => hm.below Bw (Nat.le_refl _))
  have HOK := hid ok
  have HD := hid hD
  have HID := hid (fun i (hi : i ∈ idsOf now) => mem_ids40.1 (List.mem_filter.1 hi).1)
  obtain ⟨z, hz⟩ := zS
  have HZ := hid hz
  obtain ⟨u, hu'⟩ : ∃ u, now.used = u := ⟨_, rfl⟩
  have HUU := hid hu'
  rw [hu'] at hu
  clear h lv hm hD hz hu' hH hl hn1
  obtain ⟨N, hN⟩ : ∃ N, (idsOf now).length = N := ⟨_, rfl⟩
  have HN := hid hN
  have hN40 : N ≤ 40 := by rw [← hN]; exact Nat.le_trans (List.length_filter_le _ _) (by decide)
  rw [hN] at ID
  clear hN ok
  go_enter Tryz.func23, Tryz.ntmps23
  go_wp2_with fail
  refine ID.mono ?_
  rintro e w1 ⟨uu, rfl, o1, B1⟩
  clear ID
  obtain ⟨ua, uc, rfl, hul, -, -, urow, -, -⟩ := row_of_owns o1
  have UR := hid urow
  have UL := hid hul
  have hix := fun k (hk : k < N) => idx_at1 (P := Tryz.prog) (T := 33) Tryz.underlying33 szI (cap := uc) (a := ua) (fun _ => urow.nn (by rw [hul]; omega)) hk
  have UC := hid (fun (W : World) (Bw : Below w1.heap.size w1 W) (k : Nat) (id : Int) (hk : (idsOf now)[k]? = some id) => (show W.cell? ⟨sB ua, sO ua + k, none⟩ = some (.int .i64 id) from (urow.below Bw (Nat.le_refl _)).cell k (.int .i64 id) (by rw [I8, List.getElem?_map, hk]; rfl)))
  have HB1 := hid B1
  clear o1 B1 hul urow
  go_wp2_with fail
  go_loopw [6, 18] (fun u6 u18 wr => ∃ (j t : Nat), u6 = .int .i64 t ∧ u18 = .int .i64 j ∧ j ≤ N ∧ t ≤ u ∧ Hid (t = 1 + takeL now.data ((idsOf now).take j)) ∧ Hid (∀ i ∈ (idsOf now).take j, D i = now.data i) ∧ Hid (Below w1.heap.size w1 wr)) (fun _ u18 _ => N - (intOf u18).toNat)
  case atStart => exact ⟨0, 1, rfl, rfl, Nat.zero_le _, by have h1 := HU.out; have h2 := HUU.out; omega, hid rfl, hid (by simp), hid (Below.refl _ _)⟩
  case round =>
    obtain ⟨j, t, rfl, rfl, hj, htu, HT, HA, BJ⟩ := hrel
    by_cases hjN : j < N
    · have hjm : j < (idsOf now).length := by rw [HN.out]; exact hjN
      obtain ⟨id, hidk⟩ : ∃ id, (idsOf now)[j]? = some id := ⟨_, List.getElem?_eq_getElem hjm⟩
      have hmem := List.mem_of_getElem? hidk
      have hidb := HID.out id hmem
      obtain ⟨x, hx⟩ := Option.isSome_iff_exists.1 (List.mem_filter.1 hmem).2
      have HX := hid hx
      have HK := hid hidk
      have hixj := hix j hjN
      have hji : (j : Int) < (N : Int) := by omega
      have hj0 : (0 : Int) ≤ (j : Int) := by omega
      have ck := UC.out wr BJ.out j id hidk
      have BW := hid (HB1.out.trans (BJ.out.mono HB1.out.size))
      have GEj := GE.out wr BW.out id (by omega)
      rw [hx, bytes_of hx] at GEj
      have hxl := HOK.out.b id x hx
      obtain ⟨bl, hbl⟩ : ∃ bl, x.1.length = bl := ⟨_, rfl⟩
      rw [hbl] at hxl
      have HBL := hid hbl
      have hbl6 : bl ≤ 60000 := hxl.1
      have HXB := hid hxl.2
      rw [hbl] at GEj
      have HDX := hid (show now.data id = some x.1 by unfold Rcs.data; rw [hx]; rfl)
      have TK := takes_any bl
      have hgo := hid (show (idsOf now).take (j + 1) = (idsOf now).take j ++ [id] by rw [List.take_add_one, hidk]; rfl)
      have hgt := hid (show takeL now.data ((idsOf now).take (j + 1)) = takeL now.data ((idsOf now).take j) + takes bl by
        rw [hgo.out, takeL_append]
        show _ + (takes ((now.data id).getD []).length + 0) = _
        rw [HDX.out, ← HBL.out]; rfl)
      have hgu := hid (show 1 + takeL now.data ((idsOf now).take (j + 1)) ≤ u by
        have h1 := HU.out
        rw [HUU.out] at h1
        have h2 := takeL_append now.data ((idsOf now).take (j + 1)) ((idsOf now).drop (j + 1))
        rw [List.take_append_drop] at h2
        omega)
      obtain ⟨tk, htk⟩ : ∃ tk, takes bl = tk := ⟨_, rfl⟩
      rw [htk] at TK
      have htk2 : t + tk ≤ u := by have h1 := hgu.out; rw [hgt.out, htk] at h1; have h2 := HT.out; omega
      have HTK := hid htk
      clear hmem hx hidk hxl hbl htk hjm
      go_wp2_with fail
      refine GEj.mono ?_
      rintro e w2 ⟨ub, rfl, o2, B2⟩
      clear GEj
      obtain ⟨ba, bc, rfl, hbl2, -, -, brow, -, -⟩ := row_of_owns o2
      have BW2 := hid (BW.out.trans (B2.mono BW.out.size))
      have BJ2 := hid (BJ.out.trans (B2.mono BJ.out.size))
      have ck2 := UC.out w2 BJ2.out j id HK.out
      have lk := (HM.out w2 BW2.out).look_ok Tryz.underlying32 (HZ.out w2) (x := id) (by omega)
      have CVn := fun nq => conv_row (P := Tryz.prog) (w := w2.drewN nq) Tryz.underlying27 Tryz.underlying5 Tryz.underlying9 bc (Row.keep brow (w' := w2.drewN nq) (fun _ => rfl)) HBL.out
      clear o2 hbl2 B2 ck
      cases hd : D id with
      | none =>
        rw [show strM D id = none by unfold strM; rw [hd]; rfl] at lk
        have HF := hid (show sameD D now = false from sameD_false hidb (by rw [hd, HDX.out]; simp))
        clear hd
        go_wp2_with fail
        go_quiet (fail)
        go_wp2_with fail
        go_ret
        exact ⟨by have h9 := HF.out; rw [h9]; first | done | rfl, Below.drewN BW2.out _⟩
      | some b =>
        rw [show strM D id = some (.string (strOfNums b)) by unfold strM; rw [hd]; rfl] at lk
        have hse := str_eq HXB.out (HD.out.b id b hd).2
        by_cases heq : x.1 = b
        · rw [decide_eq_true heq] at hse
          have HE := hid (show D id = now.data id by rw [hd, HDX.out, heq])
          have BWq := hid (fun nq => (show Below w.heap.size w (w2.drewN nq) from Below.drewN BW2.out nq))
          clear hd heq
          rcases Nat.eq_zero_or_pos j with hj00 | hjp
          · have hjd : decide ((0 : Int) < (j : Int)) = false := decide_eq_false (by omega)
            have hjd2 : decide (0 < j) = false := decide_eq_false (by omega)
            clear hj00
            go_wp2_with fail
            go_quiet (fail)
            go_wp2_with fail
            refine (TK _ (by omega)).mono ?_
            rintro e w3 ⟨rfl, rfl⟩
            go_wp2_with fail
            go_roundw
            case measure => simp [intOf]; omega
            case rel => exact ⟨j + 1, t + tk, by go_num, by go_num, by omega, htk2, hid (by rw [hgt.out, HTK.out]; have := HT.out; omega), hid (fun i hi => by
                rw [hgo.out] at hi
                rcases List.mem_append.1 hi with h | h
                · exact HA.out i h
                · obtain rfl := List.mem_singleton.1 h
                  exact HE.out), hid (Below.drewN BJ2.out _)⟩
          · obtain ⟨i0, hi0⟩ : ∃ i0 : Nat, (j : Int) - 1 = (i0 : Int) := ⟨j - 1, by omega⟩
            have hi0N : i0 < N := by omega
            have hix0 := hix i0 hi0N
            obtain ⟨id0, hk0⟩ : ∃ id0, (idsOf now)[i0]? = some id0 := ⟨_, List.getElem?_eq_getElem (by rw [HN.out]; exact hi0N)⟩
            have c0 := UC.out w2 BJ2.out i0 id0 hk0
            have hlt : decide (id ≤ id0) = false := by
              have h1 := List.pairwise_iff_getElem.1 (idsOf_sorted now) i0 j (by rw [HN.out]; exact hi0N) (by rw [HN.out]; exact hjN) (by omega)
              rw [List.getElem?_eq_getElem (by rw [HN.out]; exact hi0N)] at hk0
              have h2 := HK.out
              rw [List.getElem?_eq_getElem (by rw [HN.out]; exact hjN)] at h2
              rw [Option.some.inj hk0, Option.some.inj h2] at h1
              exact decide_eq_false (by omega)
            have hjd : decide ((0 : Int) < (j : Int)) = true := decide_eq_true (by omega)
            have hjd2 : decide (0 < j) = true := decide_eq_true (by omega)
            have hw0 : IntKind.i64.wrap ((j : Int) - 1) = (i0 : Int) := by rw [hi0]; exact IntWalk.i64_in _ (by omega)
            have hi01 : (0 : Int) ≤ (i0 : Int) := by omega
            have hi02 : (i0 : Int) < (N : Int) := by omega
            clear hk0
            go_wp2_with fail
            go_quiet (fail)
            go_wp2_with fail
            refine (TK _ (by omega)).mono ?_
            rintro e w3 ⟨rfl, rfl⟩
            go_wp2_with fail
            go_roundw
            case measure => simp [intOf]; omega
            case rel => exact ⟨j + 1, t + tk, by go_num, by go_num, by omega, htk2, hid (by rw [hgt.out, HTK.out]; have := HT.out; omega), hid (fun i hi => by
                rw [hgo.out] at hi
                rcases List.mem_append.1 hi with h | h
                · exact HA.out i h
                · obtain rfl := List.mem_singleton.1 h
                  exact HE.out), hid (Below.drewN BJ2.out _)⟩
        · rw [decide_eq_false heq] at hse
          have HF := hid (show sameD D now = false from sameD_false hidb (by rw [hd, HDX.out]; intro e; exact heq (Option.some.inj e).symm))
          clear hd heq
          go_wp2_with fail
          go_quiet (fail)
          go_wp2_with fail
          go_ret
          exact ⟨by have h9 := HF.out; rw [h9]; first | done | rfl, Below.drewN BW2.out _⟩
    · obtain rfl : j = N := by omega
      have hjd : decide ((j : Int) < (j : Int)) = false := by simp
      have BW := hid (HB1.out.trans (BJ.out.mono HB1.out.size))
      have htE : t = u := by
        have h1 := HT.out
        rw [← HN.out, List.take_length] at h1
        have h2 := HU.out
        rw [HUU.out] at h2
        omega
      have GEj := GE.out wr BW.out 41 (by omega)
      have h41 : now 41 = none := by
        cases h : now 41 with
        | none => rfl
        | some x => have := HOK.out.id 41 x h; omega
      rw [h41] at GEj
      have hb41 : now.bytes 41 = [] := by unfold Rcs.bytes; rw [h41]; rfl
      rw [hb41] at GEj
      clear h41 hb41
      subst htE
      go_wp2_with fail
      refine GEj.mono ?_
      rintro e w2 ⟨ub, rfl, -, B2⟩
      clear GEj
      have BW2 := BW.out.trans (B2.mono BW.out.size)
      clear B2
      have LN : ∀ W, Below w2.heap.size w2 W → (Builtin.len_ #[32] 3 #[.map (some m)]).run Tryz.prog W = .ok (.int .i64 ((cnt D : Nat) : Int)) W := fun W Bw => by
        have := (HM.out W (BW2.trans (Bw.mono BW2.size))).len (fun x hx => by
          rw [strM_some] at hx
          obtain ⟨b, hb⟩ := Option.isSome_iff_exists.1 hx
          exact HD.out.id x b hb) Tryz.underlying32 3
        rw [this]
        simp only [strM_some]
        rfl
      by_cases hc : cnt D = j
      · rw [hc] at LN
        have HS := hid (show sameD D now = true from sameD_true (data_same HD.out.id (fun i hi => HA.out i (by rw [← HN.out, List.take_length]; exact hi)) (by rw [HN.out, hc]) (fun i hi => by
          obtain ⟨x, hx⟩ := Option.isSome_iff_exists.1 hi
          exact HOK.out.id i x hx)))
        clear hc
        have LN2 := LN w2 (Below.refl _ _)
        have FR2 := FR.out w2 BW2
        rw [HUU.out] at FR2
        clear LN
        go_wp2_with fail
        refine FR2.mono ?_
        rintro e w3 ⟨rfl, B3⟩
        have BW3 := BW2.trans (B3.mono BW2.size)
        have TR3 := TR.out w3 BW3
        clear FR2 LN2 B3
        go_wp2_with fail
        refine TR3.mono ?_
        rintro e w4 ⟨rfl, B4⟩
        clear TR3
        go_wp2_with fail
        go_ret
        exact ⟨by have h9 := HS.out; rw [h9]; first | done | rfl | (show Ending.returned (.bool (_ == _)) = _; rw [beq_self_eq_true]), BW3.trans (B4.mono BW3.size)⟩
      · obtain ⟨c, hcc⟩ : ∃ c, cnt D = c := ⟨_, rfl⟩
        rw [hcc] at LN hc
        have hcj : ((j : Int) == (c : Int)) = false := by simp; omega
        have HS := hid (show sameD D now = false by
          cases hs : sameD D now with
          | false => rfl
          | true =>
            exfalso
            have h1 := sameD_of HD.out HOK.out hs
            have h2 : cnt D = cnt now.data := by rw [show D = now.data from funext h1]
            rw [hcc, ← idsOf_data, HN.out] at h2
            exact hc h2)
        clear hcc
        have LN2 := LN w2 (Below.refl _ _)
        clear LN
        go_wp2_with fail
        go_ret
        exact ⟨by have h9 := HS.out; rw [h9]; first | done | rfl, BW2⟩

end Go.Proofs.YtleoelhhndeheaaGreat

/- a []Act of the vault's laws that came in -/
open Go Go.RowKit Go.ChangeShapes Go.WideShapes
namespace Go.Proofs.YtleoelhhndeheaaGreat
open Go.Deep

def bdI (x : Int) : Prop := -9223372036854775808 ≤ x ∧ x ≤ 9223372036854775807
structure ActW where
  what : Int
  id : Int
  n : Int
  torn : Int
  cut : Int
  ba : Option Addr
  bl : Nat
  bc : Nat
  bz : List Int
  ka : Option Addr
  kl : Nat
  kc : Nat
  kz : List Int
instance : Inhabited ActW := ⟨⟨0, 0, 0, 0, 0, none, 0, 0, [], none, 0, 0, []⟩⟩
/-- a []byte within what came in -/
structure ByteIn (w : World) (a : Option Addr) (len cap : Nat) (zs : List Int) : Prop where
  hrow : Row w a (B8 zs)
  hlen : zs.length = len
  hbytes : IsBytes zs
  hnil : a = none → len = 0 ∧ cap = 0
  hcap : len ≤ cap
  hcapm : cap ≤ 9223372036854775807
structure ActWOk (w : World) (y : ActW) : Prop where
  b : ByteIn w y.ba y.bl y.bc y.bz
  keep : IntsAt w y.ka y.kl y.kc y.kz
  b0 : bdI y.what
  b1 : bdI y.id
  b2 : bdI y.n
  b3 : bdI y.torn
  b4 : bdI y.cut
  kb : IsNums y.kz
theorem ByteIn.below {w w' : World} {a : Option Addr} {len cap : Nat} {zs : List Int} (h : ByteIn w a len cap zs) {B : Nat} (hb : Below B w w') (hB : w.heap.size ≤ B) : ByteIn w' a len cap zs :=
  ⟨h.hrow.below hb hB, h.hlen, h.hbytes, h.hnil, h.hcap, h.hcapm⟩
theorem ActWOk.below {w w' : World} {y : ActW} (h : ActWOk w y) {B : Nat} (hb : Below B w w') (hB : w.heap.size ≤ B) : ActWOk w' y :=
  ⟨h.b.below hb hB, h.keep.below hb hB, h.b0, h.b1, h.b2, h.b3, h.b4, h.kb⟩
structure ActsW (w : World) (a : Option Addr) (len : Nat) (X : Nat → ActW) : Prop where
  nn : 0 < len → a = some ⟨sB a, sO a, none⟩
  c0 : ∀ i, i < len → w.cell? ⟨sB a, sO a + i * 7, none⟩ = some (.int .i64 (X i).what)
  c1 : ∀ i, i < len → w.cell? ⟨sB a, sO a + i * 7 + 1, none⟩ = some (.int .i64 (X i).id)
  c2 : ∀ i, i < len → w.cell? ⟨sB a, sO a + i * 7 + 2, none⟩ = some (.int .i64 (X i).n)
  c3 : ∀ i, i < len → w.cell? ⟨sB a, sO a + i * 7 + 3, none⟩ = some (.int .i64 (X i).torn)
  c4 : ∀ i, i < len → w.cell? ⟨sB a, sO a + i * 7 + 4, none⟩ = some (.int .i64 (X i).cut)
  c5 : ∀ i, i < len → w.cell? ⟨sB a, sO a + i * 7 + 5, none⟩ = some (.slice (X i).ba (X i).bl (X i).bc)
  c6 : ∀ i, i < len → w.cell? ⟨sB a, sO a + i * 7 + 6, none⟩ = some (.slice (X i).ka (X i).kl (X i).kc)
  ok : ∀ i, i < len → ActWOk w (X i)
  len : len ≤ maxLen
theorem ActsW.below {w w' : World} {a : Option Addr} {n : Nat} {X : Nat → ActW} (h : ActsW w a n X) {B : Nat} (hb : Below B w w') (hB : w.heap.size ≤ B) : ActsW w' a n X :=
  ⟨h.nn, fun i hi => Below.cellAt hb (by have := lt_of_cell (h.c0 i hi); omega) (h.c0 i hi), fun i hi => Below.cellAt hb (by have := lt_of_cell (h.c1 i hi); omega) (h.c1 i hi), fun i hi => Below.cellAt hb (by have := lt_of_cell (h.c2 i hi); omega) (h.c2 i hi), fun i hi => Below.cellAt hb (by have := lt_of_cell (h.c3 i hi); omega) (h.c3 i hi), fun i hi => Below.cellAt hb (by have := lt_of_cell (h.c4 i hi); omega) (h.c4 i hi), fun i hi => Below.cellAt hb (by have := lt_of_cell (h.c5 i hi); omega) (h.c5 i hi), fun i hi => Below.cellAt hb (by have := lt_of_cell (h.c6 i hi); omega) (h.c6 i hi), fun i hi => (h.ok i hi).below hb hB, h.len⟩

theorem row_of_cells5 {W : World} {x : Addr} {kd : IntKind} {zs : List Int} {l : Nat} (hl : l ≤ zs.length) (hcell : ∀ i, i < zs.length → W.cell? (x.add i) = some (.int kd (zs.getD i 0))) : Row W (some x) ((zs.take l).map (Value.int kd)) := by
  have hx : 0 < l → some x = some ⟨sB (some x), sO (some x), none⟩ := fun h0 => some_of_cell (hcell 0 (by omega))
  refine ⟨fun h0 => hx (by simp at h0; omega), fun i v hv => ?_⟩
  rw [List.getElem?_map, List.getElem?_take] at hv
  split at hv
  · rename_i hi
    obtain ⟨z, hz2, rfl⟩ := Option.map_eq_some_iff.1 hv
    have e := hx (by omega)
    rw [Option.some.injEq] at e
    have h1 := hcell i (by omega)
    rw [e, add_eq, List.getD_eq_getElem?_getD, hz2] at h1
    exact h1
  · simp at hv
theorem open_intsR5 {H : Type} {enc : TypeId × Value → H} {W : World} {k : Nat} {v : Value} {y : DataW H × List MemPlace} (h : DataW.trod enc Tryz.prog W 0 (fun _ => true) true k 33 [v] = some y) :
    ∃ a l c zs, v = .slice a l c ∧ IntsAt W a l c zs ∧ IsNums zs := by
  rcases open_ints Tryz.underlying33 Tryz.underlying3 (by kernel_rfl) h with ⟨hcs, _⟩ | ⟨x, l, c, zs, hcs, _, hl, hm, hz, hy, hcell, hwz⟩
  · simp at hcs
    exact ⟨none, 0, 0, [], hcs, IntsAt.none _, fun n hn => by cases hn⟩
  · simp at hcs
    simp only [if_true] at hz
    unfold maxLen at hm
    exact ⟨some x, l, c, zs.take l, hcs, ⟨row_of_cells5 (by omega) hcell, by simp; omega, (fun h => by cases h), by omega⟩, fun n hn => bd_i64 (hwz n (List.mem_of_mem_take hn))⟩
theorem open_bytesR5 {H : Type} {enc : TypeId × Value → H} {W : World} {k : Nat} {v : Value} {y : DataW H × List MemPlace} (h : DataW.trod enc Tryz.prog W 0 (fun _ => true) true k 27 [v] = some y) :
    ∃ a l c zs, v = .slice a l c ∧ ByteIn W a l c zs := by
  rcases open_ints Tryz.underlying27 Tryz.underlying5 (by kernel_rfl) h with ⟨hcs, _⟩ | ⟨x, l, c, zs, hcs, _, hl, hm, hz, hy, hcell, hwz⟩
  · simp at hcs
    exact ⟨none, 0, 0, [], hcs, Row.nil _ _, rfl, fun n hn => (by cases hn), fun _ => ⟨rfl, rfl⟩, Nat.le_refl _, by omega⟩
  · simp at hcs
    simp only [if_true] at hz
    unfold maxLen at hm
    exact ⟨some x, l, c, zs.take l, hcs, row_of_cells5 (by omega) hcell, by simp; omega, fun n hn => bd_u8 (hwz n (List.mem_of_mem_take hn)), fun h => (by cases h), by omega, by omega⟩

set_option maxRecDepth 100000 in
set_option maxHeartbeats 1000000 in
theorem acts6_open {H : Type} {enc : TypeId × Value → H} {W : World} {a : Option Addr} {len cap : Nat} {d : DataW H} {p : List MemPlace} (h : DataW.Trod enc Tryz.prog W 0 (fun _ => true) true 26 (.slice a len cap) d p) : ∃ X, ActsW W a len X := by
  obtain ⟨fuel, hf⟩ := h
  have ce : Tryz.prog.cellsOf 35 = 7 := by kernel_rfl
  have ci : Tryz.prog.cellsOf 3 = 1 := by kernel_rfl
  have ck : Tryz.prog.cellsOf 33 = 1 := by kernel_rfl
  have cb : Tryz.prog.cellsOf 27 = 1 := by kernel_rfl
  rcases open_slice Tryz.underlying26 hf with ⟨hcs, _⟩ | ⟨x, l, c, m, n, D, Pl, hcs, _, hl, hm, hmm, _, hx⟩
  · simp [Value.cells] at hcs
    obtain ⟨rfl, rfl, rfl⟩ := hcs
    exact ⟨fun _ => default, fun h => by omega, fun i h => by omega, fun i h => by omega, fun i h => by omega, fun i h => by omega, fun i h => by omega, fun i h => by omega, fun i h => by omega, fun i h => by omega, Nat.zero_le _⟩
  · simp [Value.cells] at hcs
    obtain ⟨rfl, rfl, rfl⟩ := hcs
    simp only [if_true] at hmm
    subst hmm
    have each : ∀ i, i < len → ∃ q : ActW, W.cell? (x.add (i * 7)) = some (.int .i64 q.what) ∧ W.cell? (x.add (i * 7 + 1)) = some (.int .i64 q.id) ∧ W.cell? (x.add (i * 7 + 2)) = some (.int .i64 q.n) ∧ W.cell? (x.add (i * 7 + 3)) = some (.int .i64 q.torn) ∧ W.cell? (x.add (i * 7 + 4)) = some (.int .i64 q.cut) ∧
        W.cell? (x.add (i * 7 + 5)) = some (.slice q.ba q.bl q.bc) ∧ W.cell? (x.add (i * 7 + 6)) = some (.slice q.ka q.kl q.kc) ∧ ActWOk W q := by
      intro i hi
      obtain ⟨cs, h1, h2⟩ := hx i (by omega)
      rw [ce] at h1
      obtain ⟨_, hlen, hcell⟩ := World.cells?_some h1
      obtain ⟨xs, k, hk, hxy, _, hxl, hff⟩ := DataW.trod_struct Tryz.underlying35 h2
      match cs, hlen with
      | [v0, v1, v2, v3, v4, v5, v6], _ =>
        have g0 := hff 0 _ rfl
        have g1 := hff 1 _ rfl
        have g2 := hff 2 _ rfl
        have g3 := hff 3 _ rfl
        have g4 := hff 4 _ rfl
        have g5 := hff 5 _ rfl
        have g6 := hff 6 _ rfl
        simp [ci, ck, cb] at g0 g1 g2 g3 g4 g5 g6
        match xs, hxl with
        | [y0, y1, y2, y3, y4, y5, y6], _ =>
          obtain ⟨n0, e0, _, w0⟩ := DataW.trod_int Tryz.underlying3 g0
          obtain ⟨n1, e1, _, w1⟩ := DataW.trod_int Tryz.underlying3 g1
          obtain ⟨n2, e2, _, w2⟩ := DataW.trod_int Tryz.underlying3 g2
          obtain ⟨n3, e3, _, w3⟩ := DataW.trod_int Tryz.underlying3 g3
          obtain ⟨n4, e4, _, w4⟩ := DataW.trod_int Tryz.underlying3 g4
          simp at e0 e1 e2 e3 e4
          have k0 := hcell 0 (by omega)
          have k1 := hcell 1 (by omega)
          have k2 := hcell 2 (by omega)
          have k3 := hcell 3 (by omega)
          have k4 := hcell 4 (by omega)
          have k5 := hcell 5 (by omega)
          have k6 := hcell 6 (by omega)
          rw [add_add] at k0 k1 k2 k3 k4 k5 k6
          have g5' : DataW.trod enc Tryz.prog W 0 (fun _ => true) true k 27 [v5] = some y5 := by simpa using g5
          have g6' : DataW.trod enc Tryz.prog W 0 (fun _ => true) true k 33 [v6] = some y6 := by simpa using g6
          obtain ⟨ba, bl, bc, bz, rfl, a1⟩ := open_bytesR5 g5'
          obtain ⟨ka, kl, kc, kz, rfl, c1, c2⟩ := open_intsR5 g6'
          subst e0 e1 e2 e3 e4
          exact ⟨⟨n0, n1, n2, n3, n4, ba, bl, bc, bz, ka, kl, kc, kz⟩, by simpa using k0, by simpa using k1, by simpa using k2, by simpa using k3, by simpa using k4, by simpa using k5, by simpa using k6, ⟨a1, c1, bd_i64 w0, bd_i64 w1, bd_i64 w2, bd_i64 w3, bd_i64 w4, c2⟩⟩
    obtain ⟨q, hq⟩ := choose_lt each
    have hsome : 0 < len → some x = some ⟨sB (some x), sO (some x), none⟩ := fun h => some_of_cell (by simpa using (hq 0 h).1)
    have hadd : ∀ i j, i < len → x.add (i * 7 + j) = ⟨sB (some x), sO (some x) + i * 7 + j, none⟩ := fun i j hi => by
      have h7 := hsome (by omega)
      rw [Option.some.injEq] at h7
      conv => lhs; rw [h7, add_eq]
      rw [Nat.add_assoc]
    refine ⟨q, hsome, fun i hi => ?_, fun i hi => ?_, fun i hi => ?_, fun i hi => ?_, fun i hi => ?_, fun i hi => ?_, fun i hi => ?_, fun i hi => (hq i hi).2.2.2.2.2.2.2, by omega⟩
    · have := (hq i hi).1; rw [show i * 7 = i * 7 + 0 from rfl, hadd i 0 hi] at this; exact this
    · have := (hq i hi).2.1; rw [hadd i 1 hi] at this; exact this
    · have := (hq i hi).2.2.1; rw [hadd i 2 hi] at this; exact this
    · have := (hq i hi).2.2.2.1; rw [hadd i 3 hi] at this; exact this
    · have := (hq i hi).2.2.2.2.1; rw [hadd i 4 hi] at this; exact this
    · have := (hq i hi).2.2.2.2.2.1; rw [hadd i 5 hi] at this; exact this
    · have := (hq i hi).2.2.2.2.2.2.1; rw [hadd i 6 hi] at this; exact this

theorem szActW : (Tryz.prog.info? 35).map (·.size) = some 7 := by kernel_rfl
theorem ActsW.ix {w : World} {a : Option Addr} {len : Nat} {X : Nat → ActW} (h : ActsW w a len X) (cap : Nat) (i : Nat) (hi : i < len) (W' : World) : (Instr.indexAt 26 (.slice a len cap) (.int .i64 i)).run Tryz.prog W' = .ok (.pointer (some ⟨sB a, sO a + i * 7, none⟩)) W' := idx_at (P := Tryz.prog) Tryz.underlying26 szActW h.nn hi W'

end Go.Proofs.YtleoelhhndeheaaGreat

/- lariatlaw6.bytes -/
open Go Go.RowKit
namespace Go.Proofs.YtleoelhhndeheaaGreat

/-- the k-th byte of a raw act behind its own -/
def byteV (id : Int) (k : Nat) : Int := ((k : Int) * id) % 256
/-- how many bytes a raw act has at least -/
def lenV (n : Int) : Nat := ((n % 4) * (n.tdiv 4 % 120)).toNat
/-- the bytes of a raw act -/
def bytesFrom (id : Int) (zs : List Int) : Nat → List Int
  | 0 => zs
  | k + 1 => bytesFrom id zs k ++ [byteV id (zs.length + k)]
def bytesV (id n : Int) (zs : List Int) : List Int := bytesFrom id (zs.take 60) (lenV n - (zs.take 60).length)
theorem bytesFrom_length (id : Int) (zs : List Int) : ∀ k, (bytesFrom id zs k).length = zs.length + k
  | 0 => rfl
  | k + 1 => by
    show (bytesFrom id zs k ++ _).length = _
    rw [List.length_append, bytesFrom_length id zs k, List.length_singleton]; omega
theorem byteV_byte (id : Int) (k : Nat) : 0 ≤ byteV id k ∧ byteV id k ≤ 255 := by unfold byteV; omega
theorem bytesFrom_bytes {id : Int} {zs : List Int} (h : IsBytes zs) : ∀ k, IsBytes (bytesFrom id zs k)
  | 0 => h
  | k + 1 => (bytesFrom_bytes h k).append fun x hx => by obtain rfl := List.mem_singleton.1 hx; exact byteV_byte id _
theorem lenV_le (n : Int) : lenV n ≤ 357 := by
  unfold lenV
  have h1 : 0 ≤ n % 4 ∧ n % 4 ≤ 3 := by omega
  have h2 : 0 ≤ n.tdiv 4 % 120 ∧ n.tdiv 4 % 120 ≤ 119 := by omega
  have := Int.mul_le_mul h1.2 h2.2 h2.1 (by omega)
  omega
theorem bytesV_length (id n : Int) (zs : List Int) : (bytesV id n zs).length = max (min zs.length 60) (lenV n) := by
  unfold bytesV
  rw [bytesFrom_length, List.length_take]
  omega
theorem bytesV_le (id n : Int) (zs : List Int) : (bytesV id n zs).length ≤ 357 := by
  rw [bytesV_length]
  have := lenV_le n
  omega
theorem bytesV_bytes {id n : Int} {zs : List Int} (h : IsBytes zs) : IsBytes (bytesV id n zs) := bytesFrom_bytes (h.take 60) _
/-- (x wrapped at 64 bits) as a byte -/
theorem wrap64_mod (x : Int) : wrap64 x % 256 = x % 256 := by
  unfold wrap64
  omega

def sliceLen : Value → Nat
  | .slice _ l _ => l
  | _ => 0
set_option maxRecDepth 100000 in
set_option maxHeartbeats 4000000 in
theorem bytes6_any (y : ActW) (w : World) (h : ActWOk w y) :
    Calls Tryz.prog 16 #[.agg #[.int .i64 y.what, .int .i64 y.id, .int .i64 y.n, .int .i64 y.torn, .int .i64 y.cut, .slice y.ba y.bl y.bc, .slice y.ka y.kl y.kc]] w fun e w' => ∃ v, e = .returned v ∧ w'.ownsRow w.heap.size 5 1 v (bytesV y.id y.n y.bz).length (B8 (bytesV y.id y.n y.bz)) ∧ Below w.heap.size w w' := by
  obtain ⟨i0, hi, hz0, hz1, hz2⟩ := info_parts iB
  obtain ⟨xw, xi, xn, xt, xc, ba, bl, bc, bz, ka, kl, kc, kz⟩ := y
  have hxn : -9223372036854775808 ≤ xn ∧ xn ≤ 9223372036854775807 := h.b2
  have hxi : -9223372036854775808 ≤ xi ∧ xi ≤ 9223372036854775807 := h.b1
  have hb : ByteIn w ba bl bc bz := h.b
  clear h
  obtain ⟨p, hp⟩ : ∃ p, w.heap.size = p := ⟨_, rfl⟩
  obtain ⟨W1, hW1⟩ : ∃ W1, w.alloc (.cells #[.int .i64 xw, .int .i64 xi, .int .i64 xn, .int .i64 xt, .int .i64 xc, .slice ba bl bc, .slice ka kl kc] 35) = W1 := ⟨_, rfl⟩
  have B1 : Below p w W1 := by rw [← hW1]; exact (Below.refl _ _).alloc (by omega) _
  have ob : W1.heap[p]? = some (.cells #[.int .i64 xw, .int .i64 xi, .int .i64 xn, .int .i64 xt, .int .i64 xc, .slice ba bl bc, .slice ka kl kc] 35 (0, 0)) := by rw [← hW1, ← hp]; exact blk_new _ _
  have s1 : p < W1.heap.size := lt_of_blk ob
  have FW := few_anyL ba bl bc 60 bz W1 (hb.hrow.below B1 (by omega)) hb.hlen hb.hnil hb.hcap hb.hcapm (by omega)
  obtain ⟨zs, hzs⟩ : ∃ zs, bz.take 60 = zs := ⟨_, rfl⟩
  obtain ⟨l0, hl0⟩ : ∃ l0, min bl 60 = l0 := ⟨_, rfl⟩
  have hzl : zs.length = l0 := by rw [← hzs, List.length_take, hb.hlen]; omega
  have hl60 : l0 ≤ 60 := by omega
  rw [hzs, hl0] at FW
  obtain ⟨q1, hq1⟩ : ∃ q, xn % 4 = q := ⟨_, rfl⟩
  obtain ⟨q2, hq2⟩ : ∃ q, xn.tdiv 4 % 120 = q := ⟨_, rfl⟩
  obtain ⟨m, hm⟩ : ∃ m, lenV xn = m := ⟨_, rfl⟩
  have hm3 : m ≤ 357 := by rw [← hm]; exact lenV_le xn
  have hb1 : 0 ≤ q1 ∧ q1 ≤ 3 := by omega
  have hb2 : 0 ≤ q2 ∧ q2 ≤ 119 := by omega
  have hqm : q1 * q2 = (m : Int) := by
    rw [← hm, ← hq1, ← hq2]
    unfold lenV
    have := Int.mul_nonneg (hq1 ▸ hb1.1 : 0 ≤ xn % 4) (hq2 ▸ hb2.1 : 0 ≤ xn.tdiv 4 % 120)
    omega
  have hdiv : -9223372036854775808 ≤ xn.tdiv 4 ∧ xn.tdiv 4 ≤ 9223372036854775807 := by
    have h1 := Int.mul_tdiv_add_tmod xn 4
    have h2 := Int.tmod_lt_of_pos xn (b := 4) (by omega)
    have h3 := Int.lt_tmod_of_pos xn (b := 4) (by omega)
    omega
  have PK1 := fun W => pick_any xn 4 W hxn (by omega) (by omega)
  have PK2 := fun W => pick_any (xn.tdiv 4) 120 W hdiv (by omega) (by omega)
  rw [hq1] at PK1
  rw [hq2] at PK2
  have HZL := hid hzl
  have HOB := hid ob
  have HB1 := hid B1
  have HBV := hid (show ∀ k, m - l0 = k → bytesV xi xn bz = bytesFrom xi zs k from fun k hk => by unfold bytesV; rw [hm, hzs, hzl, hk])
  have HW := hid hW1
  have HP := hid hp
  rw [hp]
  clear hb hzs hl0 hzl hm hq1 hq2 ob B1 hxn
  obtain ⟨xd, hxd⟩ : ∃ xd, xn.tdiv 4 = xd := ⟨_, rfl⟩
  rw [hxd] at PK2
  have PB1 := fun W => (PK1 W).mono (R' := fun e w' => e = .returned (.int .i64 q1) ∧ Below W.heap.size W w') (fun e w' ⟨h1, h2⟩ => ⟨h1, by rw [← h2]; exact Below.refl _ _⟩)
  have PB2 := fun W => (PK2 W).mono (R' := fun e w' => e = .returned (.int .i64 q2) ∧ Below W.heap.size W w') (fun e w' ⟨h1, h2⟩ => ⟨h1, by rw [← h2]; exact Below.refl _ _⟩)
  have hwd : IntKind.i64.wrap xd = xd := by rw [← hxd]; exact IntWalk.i64_in _ hdiv
  have hwm : IntKind.i64.wrap (m : Int) = (m : Int) := IntWalk.i64_in _ (by omega)
  clear PK1 PK2
  go_enter Tryz.func16, Tryz.ntmps16
  have c5 : W1.cell? ⟨p, 5, none⟩ = some (.slice ba bl bc) := blk_cell HOB.out rfl
  go_wp2_with fail
  refine FW.mono ?_
  rintro e w2 ⟨v2, rfl, o2, B2⟩
  clear FW
  obtain ⟨a2, c2, rfl⟩ := owns_slice o2
  have ob2 := (B2.block p s1).trans HOB.out
  have HOB2 := hid ob2
  have cN : w2.cell? ⟨p, 2, none⟩ = some (.int .i64 xn) := blk_cell ob2 rfl
  have HO2 := hid o2
  have HB2 := hid (HB1.out.trans (B2.mono (by omega)))
  have s2 : p < w2.heap.size := lt_of_blk ob2
  clear o2 B2 ob2
  have SB : ∀ W, Below w2.heap.size w2 W → W.cell? ⟨p, 2, none⟩ = some (.int .i64 xn) := fun W k => Below.cellAt k s2 cN
  go_wp2_with fail
  refine wp_region_held_drew (S := fun W => W.cell? ⟨p, 2, none⟩ = some (.int .i64 xn)) (by kernel_rfl) (SB _ ((Below.refl w2.heap.size w2).drew)) (fun hHeld => ?_)
  refine wpAnyH_take (i := 0) (v := ?v1) (by simp only [List.getElem?_toArray, List.getElem?_cons_zero]; rfl) (by kernel_rfl) (by kernel_rfl) (by kernel_rfl) (by exact fun _ _ _ h => h) (Or.inl ⟨by rfl, ?h1⟩) (by assumption) ?r1
  case h1 => (intro w hSw; (try dsimp only at hSw); go_simp; try with_reducible rfl)
  try simp only [Act.put, List.setIfInBounds_toArray, List.set_cons_zero, List.set_cons_succ]
  refine wpAnyH_take (i := 1) (v := ?v2) (by simp only [List.getElem?_toArray, List.getElem?_cons_zero, List.getElem?_cons_succ]; rfl) (by kernel_rfl) (by kernel_rfl) (by kernel_rfl) (by exact fun _ _ _ h => h) (Or.inl ⟨by rfl, ?h2⟩) (by assumption) ?r2
  case h2 => (intro w hSw; (try dsimp only at hSw); go_simp; try with_reducible rfl)
  try simp only [Act.put, List.setIfInBounds_toArray, List.set_cons_zero, List.set_cons_succ]
  refine wpAnyH_take (i := 3) (v := ?v3) (by simp only [List.getElem?_toArray, List.getElem?_cons_zero, List.getElem?_cons_succ]; rfl) (by kernel_rfl) (by kernel_rfl) (by kernel_rfl) (by exact fun _ _ _ h => h) (Or.inl ⟨by rfl, ?h3⟩) (by assumption) ?r3
  case h3 => (intro w hSw; (try dsimp only at hSw); go_simp; try with_reducible rfl)
  try simp only [Act.put, List.setIfInBounds_toArray, List.set_cons_zero, List.set_cons_succ]
  refine wpAnyH_take (i := 4) (v := ?v4) (by simp only [List.getElem?_toArray, List.getElem?_cons_zero, List.getElem?_cons_succ]; rfl) (by kernel_rfl) (by kernel_rfl) (by kernel_rfl) (by exact fun _ _ _ h => h) (Or.inl ⟨by rfl, ?h4⟩) (by assumption) ?r4
  case h4 => (intro w hSw; (try dsimp only at hSw); go_simp; try with_reducible rfl)
  try simp only [Act.put, List.setIfInBounds_toArray, List.set_cons_zero, List.set_cons_succ]
  refine wpAnyH_take (i := 5) (v := ?v5) (by simp only [List.getElem?_toArray, List.getElem?_cons_zero, List.getElem?_cons_succ]; rfl) (by kernel_rfl) (by kernel_rfl) (by kernel_rfl) (by exact fun _ _ _ h => h) (Or.inl ⟨by rfl, ?h5⟩) (by assumption) ?r5
  case h5 => (intro w hSw; (try dsimp only at hSw); go_simp; try with_reducible rfl)
  try simp only [Act.put, List.setIfInBounds_toArray, List.set_cons_zero, List.set_cons_succ]
  refine wpAnyH_ready (rs := [2]) (by kernel_rfl) (by simp) ?_
  refine (AllReadyH.cons (by simp only [List.getElem?_toArray, List.getElem?_cons_zero, List.getElem?_cons_succ]; rfl) (fun K hK => ?_) AllReadyH.nil)
  go_simp
  go_at_call 12
  refine (PB1 _).mono ?_
  rintro e wq6 ⟨rfl, C6⟩
  have BB6 := ((Below.refl w2.heap.size w2).drew).trans (C6.mono (Below.size ((Below.refl w2.heap.size w2).drew)))
  refine hK.out _ _ (SB _ BB6) (fun hH7 => ?_)
  clear hK
  try simp only [Act.put, List.setIfInBounds_toArray, List.set_cons_zero, List.set_cons_succ]
  refine wpAnyH_ready (rs := [6]) (by kernel_rfl) (by simp) ?_
  refine (AllReadyH.cons (by simp only [List.getElem?_toArray, List.getElem?_cons_zero, List.getElem?_cons_succ]; rfl) (fun K hK => ?_) AllReadyH.nil)
  go_simp
  go_at_call 12
  refine (PB2 _).mono ?_
  rintro e wq8 ⟨rfl, C8⟩
  have BB8 := (BB6).trans (C8.mono (Below.size (BB6)))
  refine hK.out _ _ (SB _ BB8) (fun hH9 => ?_)
  clear hK
  try simp only [Act.put, List.setIfInBounds_toArray, List.set_cons_zero, List.set_cons_succ]
  refine wpAnyH_take (i := 7) (v := ?v10) (by simp only [List.getElem?_toArray, List.getElem?_cons_zero, List.getElem?_cons_succ]; rfl) (by kernel_rfl) (by kernel_rfl) (by kernel_rfl) (by exact fun _ _ _ h => h) (Or.inl ⟨by rfl, ?h10⟩) (by assumption) ?r10
  case h10 => (intro w hSw; (try dsimp only at hSw); go_simp; try with_reducible rfl)
  try simp only [Act.put, List.setIfInBounds_toArray, List.set_cons_zero, List.set_cons_succ]
  refine wpAnyH_take (i := 8) (v := ?v11) (by simp only [List.getElem?_toArray, List.getElem?_cons_zero, List.getElem?_cons_succ]; rfl) (by kernel_rfl) (by kernel_rfl) (by kernel_rfl) (by exact fun _ _ _ h => h) (Or.inl ⟨by rfl, ?h11⟩) (by assumption) ?r11
  case h11 => (intro w hSw; (try dsimp only at hSw); go_simp; try with_reducible rfl)
  try simp only [Act.put, List.setIfInBounds_toArray, List.set_cons_zero, List.set_cons_succ]
  refine wpAnyH_done (by kernel_rfl) ?_ _
  have BWq := HB2.out.trans (((BB8)).mono (by omega))
  have BWQ := hid BWq
  have HOq := hid (Below.owns (BB8) (Nat.le_refl _) HO2.out)
  have HXq := hid ((((BB8)).block p s2).trans HOB2.out)
  clear HO2 HOB2 BWq
  go_wp2_with fail
  go_loopw [3] (fun u3 wr => ∃ (j : Nat) (a : Option Addr) (c : Nat), u3 = .slice a j c ∧ l0 ≤ j ∧ j ≤ 400 ∧ Hid (j ≤ max l0 m) ∧ Hid (wr.ownsRow (p + 1) 5 1 (.slice a j c) j (B8 (bytesFrom xi zs (j - l0)))) ∧ Hid (Below p w wr) ∧ Hid (wr.heap[p]? = some (.cells #[.int .i64 xw, .int .i64 xi, .int .i64 xn, .int .i64 xt, .int .i64 xc, .slice ba bl bc, .slice ka kl kc] 35 (0, 0)))) (fun u3 _ => 400 - sliceLen u3)
  case atStart => exact ⟨l0, a2, c2, rfl, Nat.le_refl _, by omega, hid (by omega), hid (by rw [Nat.sub_self]; exact owns_mono2 HOq.out (by omega)), BWQ, hid HXq.out⟩
  case round =>
    obtain ⟨j, a, c, rfl, hj0, hj4, HJ, HO, HB, HX⟩ := hrel
    have c1 : wr.cell? ⟨p, 1, none⟩ = some (.int .i64 xi) := blk_cell HX.out rfl
    have sp := lt_of_blk HX.out
    by_cases hjm : j < m
    · obtain ⟨bx, hbx⟩ : ∃ bx, byteV xi j = bx := ⟨_, rfl⟩
      have hwx : wrap64 ((j : Int) * xi) % 256 = bx := by rw [← hbx]; unfold byteV; exact wrap64_mod _
      have HBX := hid (show bytesFrom xi zs (j + 1 - l0) = bytesFrom xi zs (j - l0) ++ [bx] by
        rw [show j + 1 - l0 = (j - l0) + 1 by omega]
        show _ ++ [byteV xi (zs.length + (j - l0))] = _
        rw [HZL.out, show l0 + (j - l0) = j by omega, hbx])
      have HO1 := HO.out
      have hbs : p + 1 ≤ (wr.alloc (.cells #[.int .u8 bx] 5)).heap.size := by simp; omega
      clear hbx
      go_wp2_with (at_builtin; refine wpList_append_row (P := Tryz.prog) rfl _ _ 27 rfl (p + 1) 5 i0 (.int .u8 0) Tryz.underlying27 hi hz0 hz1 (by omega) rfl (.slice a j c) j _ rfl (HO1.alloc _) (some ⟨wr.heap.size, 0, none⟩) 1 1 [.int .u8 bx] rfl (row_at _ _ _ (by simp)) rfl (fun h => by cases h) (fun u hu => by simp at hu; subst hu; rfl) ?c4 ?c5 ?_)
      case c4 => omega
      case c5 => exact hbs
      intro v' w4 o4 B4 _
      obtain ⟨a', c', rfl⟩ := owns_slice o4
      have HX4 := hid ((B4.block p (by first | (simp; done) | (simp; omega))).trans (blk_old _ HX.out))
      have HB4 := hid ((HB.out.alloc (by omega) (.cells #[.int .u8 bx] 5)).trans (B4.mono (by first | (simp; done) | (simp; omega))))
      have HO4 := hid o4
      clear o4 B4 HO1 HO
      go_wp2_with fail
      go_roundw
      case measure => first | (simp [sliceLen]; done) | (simp [sliceLen]; omega)
      case rel => exact ⟨j + 1, a', c', rfl, by omega, by omega, hid (by omega), hid (by have h9 := HO4.out; rw [HBX.out, B8, List.map_append]; exact h9), HB4, HX4⟩
    · have hjE : j - l0 = m - l0 := by have := HJ.out; omega
      have HE := hid (HBV.out _ hjE.symm)
      have HL := hid (show (bytesV xi xn bz).length = j by rw [HE.out, bytesFrom_length, HZL.out]; omega)
      go_wp2_with fail
      go_ret
      exact ⟨_, rfl, by have h9 := HO.out; rw [HL.out, HE.out]; exact owns_mono2 h9 (by omega), HB.out⟩

end Go.Proofs.YtleoelhhndeheaaGreat

/- a vault that goes, beside others' blocks; its calls -/
open Go Go.RowKit
open Go.Maps (Keyed has)
namespace Go.Proofs.YtleoelhhndeheaaGreat

theorem VltP.otherG {w w' : World} {M : Dom} {B C F G : Nat → Prop} {v l d1 t1 d2 t2 : Nat} {now kept : Rcs} (h : VltP w M B C v l d1 t1 d2 t2 now kept) (k : Ext F w w') (hX : ∀ q, F q → M.X q) (hN : ∀ q, F q → ¬ C q) (hG : ∀ q, G q → w.heap.size ≤ q ∧ q < w'.heap.size) : VltP w' (M.addX G) B C v l d1 t1 d2 t2 now kept := by
  have hn : ∀ q, C q → ¬ F q := fun q hq hf => hN q hf hq
  have hD : ∀ q, inD (M.addX G) q → inD M q ∨ w.heap.size ≤ q := fun q hq => hq.elim (fun h => .inl (.inl h)) (fun h => h.elim (fun h => .inl (.inr h)) (fun h => .inr (hG q h).1))
  exact ⟨k.blk (hn _ h.cv) h.obj, h.now.step k (fun q hq => .inr (hX q hq)) (hn _ h.cs.1.1) (hn _ h.cs.1.2) hD, h.kept.step k (fun q hq => .inr (hX q hq)) (hn _ h.cs.2.1) (hn _ h.cs.2.2) hD, h.nd, h.cv, h.cs, fun q hq => ⟨⟨.inl (h.cx q hq).1.1, (h.cx q hq).1.2⟩, Nat.lt_of_lt_of_le (h.cx q hq).2 k.size⟩⟩
theorem VSys.otherG {w w' : World} {M : Dom} {B C F G : Nat → Prop} {d l mb v : Nat} {s : DS} {L : LS} {now kept : Rcs} (h : VSys w M B C d l mb v s L now kept) (k : Ext F w w') (hX : ∀ q, F q → M.X q) (hN : ∀ q, F q → (¬ M q ∧ ¬ B q) ∧ ¬ C q) (hG : ∀ q, G q → w.heap.size ≤ q ∧ q < w'.heap.size) : VSys w' (M.addX G) B C d l mb v s L now kept := by
  obtain ⟨d1, t1, d2, t2, h2⟩ := h.out
  exact ⟨h.sys.otherG k hX (fun q hq => (hN q hq).1) hG, d1, t1, d2, t2, h2.otherG k hX (fun q hq => (hN q hq).2) hG⟩
theorem Live.otherG {w w' : World} {M : Dom} {B F G : Nat → Prop} {d l mb n : Nat} {lv : Int} {N : Nat} {V : Nat → List Int} {s : DS} {L : LS} (h : Live w M B d l mb n lv N V s L) (k : Ext F w w') (hX : ∀ q, F q → M.X q) (hN : ∀ q, F q → ¬ M q ∧ ¬ B q) (hG : ∀ q, G q → w.heap.size ≤ q ∧ q < w'.heap.size) : Live w' (M.addX G) B d l mb n lv N V s L :=
  ⟨h.sys.otherG k hX hN hG, h.full, h.n, h.leaves, h.up, h.round, h.last, h.v⟩
theorem VLive.otherG {w w' : World} {M : Dom} {B C F G : Nat → Prop} {d l mb v n : Nat} {lv : Int} {N : Nat} {V : Nat → List Int} {s : DS} {L : LS} {now kept : Rcs} (h : VLive w M B C d l mb v n lv N V s L now kept) (k : Ext F w w') (hX : ∀ q, F q → M.X q) (hN : ∀ q, F q → (¬ M q ∧ ¬ B q) ∧ ¬ C q) (hG : ∀ q, G q → w.heap.size ≤ q ∧ q < w'.heap.size) : VLive w' (M.addX G) B C d l mb v n lv N V s L now kept :=
  ⟨h.vs.otherG k hX hN hG, h.live.otherG k hX (fun q hq => (hN q hq).1) hG, h.okn, h.okk, h.hH, h.view⟩
theorem VSys.lows {w : World} {M : Dom} {B C : Nat → Prop} {d l mb v : Nat} {s : DS} {L : LS} {now kept : Rcs} (h : VSys w M B C d l mb v s L now kept) : (∀ q, M q → q < w.heap.size) ∧ (∀ q, B q → q < w.heap.size) ∧ ∀ q, C q → q < w.heap.size := by
  obtain ⟨d1, t1, d2, t2, h2⟩ := h.out
  obtain ⟨p, -, D⟩ := h.sys.drum
  exact ⟨D.ml, h.sys.led.bs, fun q hq => (h2.cx q hq).2⟩

/-- a block of others' -/
structure Bes (w : World) (M : Dom) (B C : Nat → Prop) (q : Nat) : Prop where
  x : M.X q
  n : (¬ M q ∧ ¬ B q) ∧ ¬ C q
  lt : q < w.heap.size
theorem Bes.lstep {w w' : World} {M M' : Dom} {B B' C C' : Nat → Prop} {q : Nat} (h : Bes w M B C q) (k : LStep M (fun q => B q ∨ C q) w M' (fun q => B' q ∨ C' q) w') : Bes w' M' B' C' q := by
  have hl := h.lt
  refine ⟨k.oldX q h.x, ⟨⟨fun hm => ?_, fun hb => ?_⟩, fun hc => ?_⟩, Nat.lt_of_lt_of_le hl k.ext.size⟩
  · exact (k.new q hm).elim h.n.1.1 (fun e => by omega)
  · exact (k.newB q (.inl hb)).elim (fun e => e.elim h.n.1.2 h.n.2) (fun e => by omega)
  · exact (k.newB q (.inr hc)).elim (fun e => e.elim h.n.1.2 h.n.2) (fun e => by omega)
theorem Bes.below {w w' : World} {M : Dom} {B C : Nat → Prop} {q : Nat} (h : Bes w M B C q) (k : Below w.heap.size w w') : Bes w' M B C q := ⟨h.x, h.n, Nat.lt_of_lt_of_le h.lt k.size⟩
theorem Bes.addX {w : World} {M : Dom} {B C G : Nat → Prop} {q : Nat} (h : Bes w M B C q) : Bes w (M.addX G) B C q := ⟨.inl h.x, h.n, h.lt⟩
theorem Bes.size {w w' : World} {M : Dom} {B C : Nat → Prop} {q : Nat} (h : Bes w M B C q) (k : w.heap.size ≤ w'.heap.size) : Bes w' M B C q := ⟨h.x, h.n, Nat.lt_of_lt_of_le h.lt k⟩
theorem Bes.new {w w' : World} {M : Dom} {B C : Nat → Prop} {d l mb v : Nat} {s : DS} {L : LS} {now kept : Rcs} (h : VSys w M B C d l mb v s L now kept) {q : Nat} (hq : w.heap.size ≤ q) (hl : q < w'.heap.size) : Bes w' (M.addX fun k => k = q) B C q := by
  obtain ⟨l1, l2, l3⟩ := h.lows
  exact ⟨.inr rfl, ⟨⟨fun h => by have := l1 q h; omega, fun h => by have := l2 q h; omega⟩, fun h => by have := l3 q h; omega⟩, hl⟩
theorem Bes.imap {w w' : World} {M M' : Dom} {B C : Nat → Prop} {K : Nat → Prop} {q n : Nat} {T : Int → Option Value} (h : Bes w M B C q) (k : LStep M (fun q => B q ∨ C q) w M' K w') (hm : IMap w q n T) : IMap w' q n T :=
  hm.ext k.ext (fun hf => hf.elim h.n.1.1 (fun e => e.elim h.n.1.2 h.n.2))
/-- the block is written by others -/
theorem VLive.beside {w w' : World} {M : Dom} {B C : Nat → Prop} {d l mb v n : Nat} {lv : Int} {N : Nat} {V : Nat → List Int} {s : DS} {L : LS} {now kept : Rcs} (h : VLive w M B C d l mb v n lv N V s L now kept) {q : Nat} (b : Bes w M B C q) (k : World.grownBy w w' (some q)) : VLive w' M B C d l mb v n lv N V s L now kept := by
  have e := h.otherG (F := fun k => some q = some k) (G := fun _ => False) (Ext.of_grown k) (fun x hx => by cases hx; exact b.x) (fun x hx => by cases hx; exact b.n) (fun x hx => hx.elim)
  have hX : (M.addX fun _ => False) = M := by
    unfold Dom.addX
    simp
  rwa [hX] at e
theorem Since.beside {w1 w w' : World} {M : Dom} {K : Nat → Prop} (h : Since w1 w M K) {q : Nat} (hq : w1.heap.size ≤ q) (k : World.grownBy w w' (some q)) : Since w1 w' M K :=
  ⟨Below.ext h.below (Ext.of_grown k) (fun x hx => by cases hx; exact hq) h.below.size, h.new⟩
theorem Since.addX {w1 w : World} {M : Dom} {K G : Nat → Prop} (h : Since w1 w M K) : Since w1 w (M.addX G) K := ⟨h.below, h.new⟩

theorem strM_put (R : Rcs) (id : Int) (x : List Int × List Int) : (fun k => if k = id then some (Value.string (strOfNums x.1)) else strM R.data k) = strM (R.put id x).data := by
  funext k
  unfold strM Rcs.data Rcs.put
  by_cases h : k = id
  · rw [if_pos h, if_pos h]; rfl
  · rw [if_neg h, if_neg h]
theorem strM_drop (R : Rcs) (id : Int) : (fun k => if k = id then none else strM R.data k) = strM (R.drop id).data := by
  funext k
  unfold strM Rcs.data Rcs.drop
  by_cases h : k = id
  · rw [if_pos h, if_pos h]; rfl
  · rw [if_neg h, if_neg h]
theorem strM_none : strM noRcs.data = fun _ => none := rfl
theorem strM_small {D : Int → Option (List Int)} (h : DOk D) {w : World} {b n : Nat} (hm : IMap w b n (strM D)) : IMap w b 4096 (strM D) := hm.small (H := 4096) (fun x hx => by
  rw [strM_some] at hx
  obtain ⟨y, hy⟩ := Option.isSome_iff_exists.1 hx
  have := h.id x y hy
  omega)

/-- a text of bytes as bytes -/
theorem conv_text (w : World) {zs : List Int} (hz : IsBytes zs) : ∃ c w', (convert 9 27 (.string (strOfNums zs))).run Tryz.prog w = .ok (.slice (some ⟨w.heap.size, 0, none⟩) zs.length c) w' ∧ Row w' (some ⟨w.heap.size, 0, none⟩) (B8 zs) ∧ Below w.heap.size w w' := by
  have h := run_bytes_of_string (P := Tryz.prog) w 9 27 5 (strOfNums zs) Tryz.underlying9 Tryz.underlying27 Tryz.underlying5
  rw [strOfNums_size] at h
  refine ⟨_, _, h, ⟨fun _ => rfl, fun i v hv => ?_⟩, (Below.refl _ _).drew.alloc (Nat.le_refl _) _⟩
  obtain ⟨c, hc⟩ : ∃ c, grownCap w zs.length 0 5 = c := ⟨_, rfl⟩
  rw [hc]
  have hi : i < zs.length := by
    have := (List.getElem?_eq_some_iff.1 hv).1
    simpa using this
  have hsz : (strOfNums zs).data.size = zs.length := strOfNums_size zs
  show (w.drew.alloc _).cell? ⟨w.heap.size, 0 + i, none⟩ = some v
  rw [Nat.zero_add]
  refine blk_cell (blk_new w.drew _) ?_
  rw [bytesRow_at _ _ _ (by omega)]
  rw [B8, List.getElem?_map, List.getElem?_eq_getElem hi] at hv
  rw [← Option.some.inj hv]
  have hb := hz _ (List.getElem_mem hi)
  have e : (strOfNums zs).data[i]'(by omega) = UInt8.ofNat (zs[i]).toNat := by
    have h1 := strOfNums_data zs
    have h2 := congrArg (fun l => l[i]?) h1
    simp only [List.getElem?_map, List.getElem?_eq_getElem hi, Option.map_some] at h2
    rw [Array.getElem?_toList, Array.getElem?_eq_getElem (by omega)] at h2
    exact Option.some.inj h2
  have e2 : (((strOfNums zs).data[i]'(by omega)).toNat : Int) = zs[i] := by
    rw [e, UInt8.toNat_ofNat', Nat.mod_eq_of_lt (by omega)]
    exact Int.toNat_of_nonneg hb.1
  rw [e2]

/-! a vault's calls, on one that goes -/
section
variable {w : World} {M : Dom} {B C : Nat → Prop} {d l mb v n : Nat} {lv : Int} {N : Nat} {V : Nat → List Int} {s : DS} {L : LS} {now kept : Rcs}
theorem putU (h : VLive w M B C d l mb v n lv N V s L now kept) (id : Int) (hid' : -9223372036854775808 ≤ id ∧ id ≤ 9223372036854775807) (a : Option Addr) (len cap : Nat) (bs : List Int) (hr : Row w a (B8 bs)) (hbl : bs.length = len) (hlen : len ≤ 1000000) (hn : a = none → len = 0) (hby : IsBytes bs) :
    Calls Tryz.prog 15 #[.pointer (some ⟨v, 0, none⟩), .int .i64 id, .slice a len cap] w fun e w' => e = .returned (.int .i64 (putC now (homes n lv) false id bs.length)) ∧ VLive w' M B C d l mb v n lv N V s L (now.putted (homes n lv) false id bs) kept ∧ LStep M (fun q => B q ∨ C q) w M (fun q => B q ∨ C q) w' := by
  refine (putV_any h.vs h.live.ok.lv h.live.H h.okn id hid' a len cap bs hr hbl hlen hn hby).mono ?_
  rintro e w' ⟨h1, h2, h3⟩
  rw [h.lost] at h1 h2
  exact ⟨h1, h.own h2 (putted_ok h.okn (by have := h.hH; omega) (by have := h.hH; omega) hby), h3.vault (B := B)⟩
theorem dropU (h : VLive w M B C d l mb v n lv N V s L now kept) (id : Int) (hid' : -9223372036854775808 ≤ id ∧ id ≤ 9223372036854775807) :
    Calls Tryz.prog 28 #[.pointer (some ⟨v, 0, none⟩), .int .i64 id] w fun e w' => e = .returned (.bool (now id).isSome) ∧ VLive w' M B C d l mb v n lv N V s L (now.drop id) kept ∧ LStep M (fun q => B q ∨ C q) w M (fun q => B q ∨ C q) w' := by
  refine (dropV_any h.vs id hid').mono ?_
  rintro e w' ⟨h1, h2, h3⟩
  exact ⟨h1, h.own h2 (h.okn.drop id), h3.vault (B := B)⟩
theorem undoU (h : VLive w M B C d l mb v n lv N V s L now kept) :
    Calls Tryz.prog 30 #[.pointer (some ⟨v, 0, none⟩)] w fun e w' => e = .returned (.tuple #[]) ∧ ∃ M' C', VLive w' M' B C' d l mb v n lv N V s L kept kept ∧ LStep M (fun q => B q ∨ C q) w M' (fun q => B q ∨ C' q) w' := by
  refine (undoV_any h.vs h.okk).mono ?_
  rintro e w' ⟨h1, M', C', h2, h3⟩
  exact ⟨h1, M', C', h.own h2 h.okk, h3.vault (B := B)⟩
theorem put_none {R : Rcs} {H : Nat} {id : Int} {b : List Int} (h : putC R H false id b.length ≠ 0) : R.putted H false id b = R := by unfold Rcs.putted; rw [if_neg h]
theorem put_some {R : Rcs} {H : Nat} {id : Int} {b : List Int} (h : putC R H false id b.length = 0) : R.putted H false id b = R.put id (b, R.nextT id b.length) := by unfold Rcs.putted; rw [if_pos h]; rfl
theorem VLive.le {N' : Nat} (h : VLive w M B C d l mb v n lv N V s L now kept) (hN : N ≤ N') : VLive w M B C d l mb v n lv N' V s L now kept := ⟨h.vs, h.live.le hN, h.okn, h.okk, h.hH, h.view⟩
theorem isU (h : VLive w M B C d l mb v n lv N V s L now kept) {m k : Nat} {D : Int → Option (List Int)} (hm : IMap w m k (strM D)) (hD : DOk D) :
    Calls Tryz.prog 23 #[.pointer (some ⟨v, 0, none⟩), .map (some m)] w fun e w' => e = .returned (.bool (sameD D now)) ∧ Below w.heap.size w w' := is6_any h.vs h.live.ok.lv h.live.H h.okn hm hD
end

end Go.Proofs.YtleoelhhndeheaaGreat

/- the laws of package vault: copied, sum; more of a vault's calls -/
open Go Go.RowKit
open Go.Maps (Keyed has)
namespace Go.Proofs.YtleoelhhndeheaaGreat

abbrev DT := Int → Option (List Int)
/-- the texts of the first numbers -/
def clipD (D : Int → Option (List Int)) (k : Nat) : Int → Option (List Int) := fun i => if 1 ≤ i ∧ i ≤ k then D i else none
theorem clipD_all {D : Int → Option (List Int)} (h : DOk D) : clipD D 40 = D := by
  funext i
  unfold clipD
  split
  · rfl
  · rename_i hn
    cases hd : D i with
    | none => rfl
    | some b => exact absurd (h.id i b hd) hn
theorem clipD_some {D : Int → Option (List Int)} {k : Nat} {b : List Int} (h : D ((k : Int) + 1) = some b) : (fun i => if i = (k : Int) + 1 then some (Value.string (strOfNums b)) else strM (clipD D k) i) = strM (clipD D (k + 1)) := by
  funext i
  unfold strM clipD
  by_cases e : i = (k : Int) + 1
  · subst e
    rw [if_pos rfl, if_pos (by omega), h]; rfl
  · rw [if_neg e]
    by_cases e2 : 1 ≤ i ∧ i ≤ k
    · rw [if_pos e2, if_pos (by omega)]
    · rw [if_neg e2, if_neg (by omega)]
theorem clipD_none {D : Int → Option (List Int)} {k : Nat} (h : D ((k : Int) + 1) = none) : clipD D k = clipD D (k + 1) := by
  funext i
  unfold clipD
  by_cases e : i = (k : Int) + 1
  · subst e
    rw [if_neg (by omega), if_pos (by omega), h]
  · by_cases e2 : 1 ≤ i ∧ i ≤ k
    · rw [if_pos e2, if_pos (by omega)]
    · rw [if_neg e2, if_neg (by omega)]
theorem strM_clip_small {D : Int → Option (List Int)} {w : World} {b n k : Nat} (hk : k ≤ 40) (hm : IMap w b n (strM (clipD D k))) : IMap w b 4096 (strM (clipD D k)) := hm.small (H := 4096) (fun x hx => by
  rw [strM_some] at hx
  unfold clipD at hx
  split at hx
  · omega
  · simp at hx)

set_option maxRecDepth 100000 in
set_option maxHeartbeats 4000000 in
theorem copied6_any {w : World} {m n : Nat} {D : Int → Option (List Int)} (hm : IMap w m n (strM D)) :
    Calls Tryz.prog 29 #[.map (some m)] w fun e w' => ∃ g, e = .returned (.map (some g)) ∧ IMap w' g 4096 (strM (clipD D 40)) ∧ (w.heap.size ≤ g ∧ g < w'.heap.size) ∧ Below w.heap.size w w' := by
  have hmm := @run_makeMap Tryz.prog
  obtain ⟨z, hz⟩ := zS
  have HZ := hid hz
  have HM := hid hm
  obtain ⟨x0, hx0⟩ : ∃ x0, w.heap.size = x0 := ⟨_, rfl⟩
  have HX0 := hid hx0
  have B1 : Below w.heap.size w (w.alloc (.map #[] 0)) := (Below.refl _ _).alloc (Nat.le_refl _) _
  have I1 := IMap.made w
  rw [hx0] at I1 B1 ⊢
  obtain ⟨W1, hW1⟩ : ∃ W1, w.alloc (.map #[] 0) = W1 := ⟨_, rfl⟩
  have s1 : x0 < W1.heap.size := by rw [← hW1, ← hx0]; simp
  rw [hW1] at I1 B1
  have I1H := hid (strM_clip_small (D := D) (k := 0) (by omega) (I1.congr (T' := strM (clipD D 0)) (fun x => by unfold strM clipD; rw [if_neg (by omega)]; rfl)))
  have B1H := hid B1
  clear hz hm I1 B1
  go_enter Tryz.func29, Tryz.ntmps29
  go_wp2_with fail
  go_loopw [4] (fun u4 wr => ∃ k : Nat, u4 = .int .i64 ((k : Int) + 1) ∧ k ≤ 40 ∧ Hid (IMap wr x0 4096 (strM (clipD D k))) ∧ Hid (Below x0 w wr) ∧ x0 < wr.heap.size) (fun u4 _ => 42 - (intOf u4).toNat)
  case atStart => exact ⟨0, rfl, by omega, I1H, B1H, s1⟩
  case round =>
    obtain ⟨k, rfl, hk40, IMk, BK, sk⟩ := hrel
    by_cases hk : k < 40
    · have lk := (HM.out.below BK.out (Nat.le_of_eq HX0.out)).look_ok Tryz.underlying32 (HZ.out wr) (x := (k : Int) + 1) (by omega)
      cases hd : D ((k : Int) + 1) with
      | none =>
        rw [show strM D ((k : Int) + 1) = none by unfold strM; rw [hd]; rfl] at lk
        have HC := hid (clipD_none hd)
        clear hd
        go_wp2_with fail
        go_roundw
        case measure => first | (simp [intOf]; done) | (simp [intOf]; omega)
        case rel => exact ⟨k + 1, by go_num, by omega, hid (by have h9 := IMk.out; rw [HC.out] at h9; exact h9), BK, sk⟩
      | some b =>
        rw [show strM D ((k : Int) + 1) = some (.string (strOfNums b)) by unfold strM; rw [hd]; rfl] at lk
        have HC := hid (clipD_some hd)
        have IMr := IMk.out
        clear hd
        go_wp2_with (first | (at_mapUpdate; refine wpList_mapUpdate_im rfl _ rfl _ _ _ 32 rfl 9 Tryz.underlying32 x0 4096 _ rfl IMr (by unfold maxLen; omega) ((k : Int) + 1) (.string (strOfNums b)) rfl rfl (by omega) ?_) | fail)
        intro w3 IM3 G3
        have IM4 := hid (strM_clip_small (D := D) (k := k + 1) (by omega) (by rw [HC.out] at IM3; exact IM3))
        have X3 := hid (Ext.of_grown G3)
        have B3 := hid (Below.ext BK.out X3.out (fun x hx => by cases hx; exact Nat.le_refl _) (Nat.le_of_lt sk))
        have s3 := Nat.lt_of_lt_of_le sk X3.out.size
        clear IM3 G3
        go_wp2_with fail
        go_roundw
        case measure => first | (simp [intOf]; done) | (simp [intOf]; omega)
        case rel => exact ⟨k + 1, by go_num, by omega, IM4, B3, s3⟩
    · obtain rfl : k = 40 := by omega
      go_wp2_with fail
      go_ret
      exact ⟨x0, rfl, IMk.out, ⟨Nat.le_refl _, sk⟩, BK.out⟩

/-- how many tracks some texts take -/
def sumT (D : Int → Option (List Int)) : Nat → Nat
  | 0 => 1
  | k + 1 => sumT D k + match D ((k : Int) + 1) with
    | none => 0
    | some b => takes b.length
set_option maxRecDepth 4000 in
theorem sumT_le {D : Int → Option (List Int)} (hb : ∀ i b, D i = some b → b.length ≤ 60000) : ∀ k, sumT D k ≤ 1 + k * 751
  | 0 => by show 1 ≤ _; omega
  | k + 1 => by
    have ih := sumT_le hb k
    unfold sumT
    cases hd : D ((k : Int) + 1) with
    | none => simp only; omega
    | some b =>
      have := hb _ b hd
      simp only
      unfold takes
      omega
set_option maxRecDepth 100000 in
set_option maxHeartbeats 4000000 in
theorem sum6_any {w : World} {m n : Nat} {D : Int → Option (List Int)} (hm : IMap w m n (strM D)) (hb : ∀ i b, D i = some b → b.length ≤ 60000) :
    Calls Tryz.prog 32 #[.map (some m)] w fun e w' => e = .returned (.int .i64 (sumT D 40 : Nat)) ∧ w = w' := by
  obtain ⟨z, hz⟩ := zS
  have HZ := hid hz
  have HM := hid hm
  have HB := hid hb
  clear hz hm hb
  go_enter Tryz.func32, Tryz.ntmps32
  go_wp2_with fail
  go_loopw [3, 4] (fun u3 u4 wr => ∃ (k t : Nat), u3 = .int .i64 t ∧ u4 = .int .i64 ((k : Int) + 1) ∧ k ≤ 40 ∧ t ≤ 40000 ∧ Hid (t = sumT D k) ∧ w = wr) (fun _ u4 _ => 42 - (intOf u4).toNat)
  case atStart => exact ⟨0, 1, rfl, rfl, by omega, by omega, hid rfl, rfl⟩
  case round =>
    obtain ⟨k, t, rfl, rfl, hk40, ht, HT, rfl⟩ := hrel
    by_cases hk : k < 40
    · have lk := HM.out.look_ok Tryz.underlying32 (HZ.out w) (x := (k : Int) + 1) (by omega)
      have hle := hid (sumT_le HB.out (k + 1))
      have hk1 : 1 + (k + 1) * 751 ≤ 40000 := by omega
      cases hd : D ((k : Int) + 1) with
      | none =>
        rw [show strM D ((k : Int) + 1) = none by unfold strM; rw [hd]; rfl] at lk
        have HC := hid (show sumT D (k + 1) = sumT D k by
          show sumT D k + (match D ((k : Int) + 1) with | none => 0 | some b => takes b.length) = _
          rw [hd]; rfl)
        clear hd
        go_wp2_with fail
        go_roundw
        case measure => first | (simp [intOf]; done) | (simp [intOf]; omega)
        case rel => exact ⟨k + 1, t, rfl, by go_num, by omega, ht, hid (by rw [HC.out]; exact HT.out), by trivial⟩
      | some b =>
        rw [show strM D ((k : Int) + 1) = some (.string (strOfNums b)) by unfold strM; rw [hd]; rfl] at lk
        have sz : (strOfNums b).size = b.length := strOfNums_size b
        have hbl := HB.out _ b hd
        obtain ⟨bl, hbl2⟩ : ∃ bl, b.length = bl := ⟨_, rfl⟩
        rw [hbl2] at sz hbl
        obtain ⟨tk, htk⟩ : ∃ tk, takes bl = tk := ⟨_, rfl⟩
        have hmx : max (1 : Int) (((bl : Int) + 79) / 80) = (tk : Int) := by rw [← htk]; unfold takes; omega
        have HC := hid (show sumT D (k + 1) = sumT D k + tk by
          show sumT D k + (match D ((k : Int) + 1) with | none => 0 | some b => takes b.length) = _
          rw [hd]
          simp only
          rw [hbl2, htk])
        have htt : t + tk ≤ 40000 := by have h1 := hle.out; rw [HC.out] at h1; have h2 := HT.out; omega
        clear hd hbl2 htk
        go_wp2_with fail
        go_roundw
        case measure => first | (simp [intOf]; done) | (simp [intOf]; omega)
        case rel => exact ⟨k + 1, t + tk, by go_num, by go_num, by omega, htt, hid (by rw [HC.out, HT.out]), by trivial⟩
    · obtain rfl : k = 40 := by omega
      go_wp2_with fail
      go_ret
      exact ⟨by have h9 := HT.out; rw [← h9]; first | done | rfl, rfl⟩

end Go.Proofs.YtleoelhhndeheaaGreat
