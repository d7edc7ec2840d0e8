/- scc.followers: the nodes among a node's edges -/
import Derived.Test.YtkflhmpecfckfaaIRow
import Derived.Lib.LazyBuf
import Derived.Laws.IdiomCopy
open Go Go.RowKit
namespace Go.Proofs.Ytkflhmpecfckfaa

def nodeB (n : Nat) (x : Int) : Bool := decide (0 ≤ x) && decide (x < n)

/-- the box of the edges, which the closure holds -/
abbrev Box (w : World) (b : Nat) (a : Option Addr) (n c : Nat) : Prop := w.cell? ⟨b, 0, none⟩ = some (.slice a n c)

theorem pred_any (x : Int) (b : Nat) (a : Option Addr) (n c : Nat) (w : World) (h : Box w b a n c) :
    Calls Try.prog 23 #[.int .i64 x, .pointer (some ⟨b, 0, none⟩)] w fun e w' => e = .returned (.bool (!nodeB n x)) ∧ w = w' := by
  unfold Box at h
  by_cases h1 : x < 0
  · go_enter Try.func23, Try.ntmps23
    go_wp2_with fail
    go_ret
    exact ⟨by simp [nodeB]; omega, rfl⟩
  · go_enter Try.func23, Try.ntmps23
    go_wp2_with fail
    go_ret
    have h0 : 0 ≤ x := by omega
    have e : decide ((n : Int) ≤ x) = !decide (x < (n : Int)) := by rw [← decide_not]; simp
    exact ⟨by simp [nodeB, h0, e], rfl⟩

/-- how many nodes stand ahead of the first that is none -/
def lead (n : Nat) (zs : List Int) : Nat := (zs.takeWhile (nodeB n)).length

theorem lead_le (n : Nat) (zs : List Int) : lead n zs ≤ zs.length := by
  unfold lead; exact (List.takeWhile_prefix _).length_le

theorem lead_lt {n : Nat} : ∀ {zs : List Int} {i : Nat}, i < lead n zs → nodeB n (zs[i]?.getD 0) = true
  | [], i, h => by simp [lead] at h
  | z :: zs, i, h => by
    unfold lead at h
    rw [List.takeWhile_cons] at h
    by_cases hz : nodeB n z = true
    · rw [if_pos hz] at h
      cases i with
      | zero => simpa using hz
      | succ i => simpa using lead_lt (zs := zs) (i := i) (by unfold lead; simpa using h)
    · rw [if_neg hz] at h; simp at h
theorem lead_at {n : Nat} : ∀ {zs : List Int}, lead n zs < zs.length → nodeB n (zs[lead n zs]?.getD 0) = false
  | [], h => by simp at h
  | z :: zs, h => by
    by_cases hz : nodeB n z = true
    · have e : lead n (z :: zs) = lead n zs + 1 := by unfold lead; rw [List.takeWhile_cons, if_pos hz]; rfl
      rw [e] at h ⊢
      simpa using lead_at (zs := zs) (by simpa using h)
    · have e : lead n (z :: zs) = 0 := by unfold lead; rw [List.takeWhile_cons, if_neg hz]; rfl
      rw [e]
      simpa using hz
theorem lead_all {n : Nat} {zs : List Int} (h : lead n zs = zs.length) : zs.filter (nodeB n) = zs := by
  refine List.filter_eq_self.2 fun x hx => ?_
  obtain ⟨i, hi, rfl⟩ := List.getElem_of_mem hx
  have := lead_lt (n := n) (zs := zs) (i := i) (by omega)
  simpa [List.getElem?_eq_getElem hi] using this

set_option maxHeartbeats 1000000 in
theorem indexFunc_any (v : Option Addr) (len cap : Nat) (zs : List Int) (b : Nat) (a : Option Addr) (n c : Nat) (w : World) (hb : Box w b a n c) (h : Row w v (I8 zs)) (hl : zs.length = len) (hm : len ≤ 1000000) (r : Int) (hr : Hid (r = if lead n zs = len then -1 else (lead n zs : Int))) :
    Calls Try.prog 28 #[.slice v len cap, .func (.func 23) #[] #[.pointer (some ⟨b, 0, none⟩)]] w fun e w' => e = .returned (.int .i64 r) ∧ w = w' := by
  have hix := fun k (hk : k < len) => idx_at1 (P := Try.prog) (T := 29) Try.underlying29 szI (cap := cap) (fun _ => h.nn (by simp; omega)) hk
  have HL := hid hl
  clear hl
  go_enter Try.func28, Try.ntmps28
  go_wp2_with fail
  go_loop [8] (fun i => ∃ k : Nat, k ≤ lead n zs ∧ i = .int .i64 k) (fun i => len - (intOf i).toNat)
  case atStart => exact ⟨0, by omega, rfl⟩
  case round =>
    obtain ⟨k, hk, rfl⟩ := hrel
    have hle := lead_le n zs
    rw [HL.out] at hle
    by_cases hin : k < len
    · have hix := hix k hin
      have hc := h.num (i := k) (by rw [HL.out]; exact hin)
      go_wp2_with fail
      refine (pred_any _ b a n c _ hb).mono ?_
      rintro e w1 ⟨rfl, rfl⟩
      by_cases hk2 : k < lead n zs
      · rw [lead_lt hk2]
        go_wp2_with fail
        go_round
        case rel => exact ⟨k + 1, by omega, by go_num⟩
        case measure => simp [intOf]; omega
      · obtain rfl : k = lead n zs := by omega
        rw [lead_at (by rw [HL.out]; exact hin)]
        go_wp2_with fail
        go_ret
        exact ⟨by rw [hr.out, if_neg (by omega)]; rfl, rfl⟩
    · have e : lead n zs = len := by omega
      have HE := hid e
      clear e
      go_wp2_with fail
      go_ret
      exact ⟨by rw [hr.out, if_pos HE.out]; rfl, rfl⟩

/-- what the rewritten row holds, i kept of the first j -/
structure Kept (n : Nat) (zs dk : List Int) (i j : Nat) : Prop where
  len : dk.length = zs.length
  le : i < j
  lej : j ≤ zs.length
  low : dk.take i = (zs.take j).filter (nodeB n)
  high : ∀ k, j ≤ k → dk[k]? = zs[k]?

theorem take_succ_get {zs : List Int} {j : Nat} (h : j < zs.length) : zs.take (j + 1) = zs.take j ++ [zs[j]?.getD 0] := by
  rw [List.take_add_one, List.getElem?_eq_getElem h]; rfl
theorem Kept.start {n : Nat} {zs : List Int} (h : lead n zs < zs.length) : Kept n zs zs (lead n zs) (lead n zs + 1) := by
  refine ⟨rfl, Nat.lt_succ_self _, h, ?_, fun _ _ => rfl⟩
  rw [take_succ_get h, List.filter_append, List.filter_cons_of_neg (by rw [lead_at h]; decide), List.filter_nil, List.append_nil]
  symm
  refine List.filter_eq_self.2 fun x hx => ?_
  obtain ⟨i, hi, rfl⟩ := List.getElem_of_mem hx
  have hi2 : i < lead n zs := by have := List.length_take_le (lead n zs) zs; omega
  have := lead_lt (n := n) (zs := zs) hi2
  rw [List.getElem_take]
  simpa [List.getElem?_eq_getElem (show i < zs.length by omega)] using this
theorem Kept.skip {n : Nat} {zs dk : List Int} {i j : Nat} (h : Kept n zs dk i j) (hj : j < zs.length) (hx : nodeB n (zs[j]?.getD 0) = false) : Kept n zs dk i (j + 1) := by
  refine ⟨h.len, by have := h.le; omega, hj, ?_, fun k hk => h.high k (by omega)⟩
  rw [take_succ_get hj, List.filter_append, List.filter_cons_of_neg (by rw [hx]; decide), List.filter_nil, List.append_nil]
  exact h.low
theorem Kept.keep {n : Nat} {zs dk : List Int} {i j : Nat} (h : Kept n zs dk i j) (hj : j < zs.length) (hx : nodeB n (zs[j]?.getD 0) = true) : Kept n zs (dk.set i (zs[j]?.getD 0)) (i + 1) (j + 1) := by
  have hl := h.le
  have hlen := h.len
  refine ⟨by rw [List.length_set]; exact h.len, by omega, hj, ?_, fun k hk => ?_⟩
  · rw [take_succ_get hj, List.filter_append, List.filter_cons_of_pos hx, List.filter_nil, ← h.low]
    rw [take_succ_get (by rw [List.length_set]; omega), List.take_set_of_le (Nat.le_refl _), List.getElem?_set_self (by omega)]
    rfl
  · rw [List.getElem?_set_ne (by omega)]
    exact h.high k (by omega)
theorem Kept.done {n : Nat} {zs dk : List Int} {i : Nat} (h : Kept n zs dk i zs.length) : dk.take i = zs.filter (nodeB n) := by
  rw [h.low, List.take_length]

theorem zeroI (w : World) : (zeroValue 3).run Try.prog w = .ok (.int .i64 0) w := by
  obtain ⟨i0, hi, hz0, hz1, hz2⟩ := info_parts iI
  simp [zeroValue, typeInfo, hi, hz0]

set_option maxRecDepth 100000 in
set_option maxHeartbeats 2000000 in
theorem deleteFunc_any (g L cap : Nat) (zs : List Int) (b : Nat) (a : Option Addr) (n c base : Nat) (w : World) (hb : Box w b a n c) (hbb : b < base) (ho : w.ownsRow base 3 1 (.slice (some ⟨g, 0, none⟩) L cap) L (I8 zs)) (hm : L ≤ 1000000) :
    Calls Try.prog 21 #[.slice (some ⟨g, 0, none⟩) L cap, .func (.func 23) #[] #[.pointer (some ⟨b, 0, none⟩)]] w fun e w' =>
      ∃ m, e = .returned (.slice (some ⟨g, 0, none⟩) m cap) ∧ m = (zs.filter (nodeB n)).length ∧ Row w' (some ⟨g, 0, none⟩) (I8 (zs.filter (nodeB n))) ∧ Below base w w' := by
  have hbase : base ≤ w.heap.size := by have := (ho.lt g rfl); omega
  have hg : base ≤ g := (ho.lt g rfl).1
  obtain ⟨a', c', hv, hl, hcap, hcm, hr, _, _⟩ := row_of_owns ho
  cases hv
  have hl : zs.length = L := by simpa using hl
  unfold maxLen at hcm
  have HL := hid hl
  clear hl
  by_cases hall : lead n zs = L
  · have HA := hid hall
    have hix := indexFunc_any (some ⟨g, 0, none⟩) L cap zs b a n c w hb hr HL.out hm (-1) (hid (by rw [if_pos hall]))
    clear hall
    go_enter Try.func21, Try.ntmps21
    go_wp2_with fail
    refine hix.mono ?_
    rintro e w1 ⟨rfl, rfl⟩
    go_wp2_with fail
    go_ret
    have e := lead_all (n := n) (zs := zs) (by rw [HA.out, HL.out])
    exact ⟨L, rfl, by rw [e, HL.out], by rw [e]; exact hr, Below.refl _ _⟩
  · have hle := lead_le n zs
    have hlt : lead n zs < zs.length := by have := HL.out; omega
    have hix := indexFunc_any (some ⟨g, 0, none⟩) L cap zs b a n c w hb hr HL.out hm (lead n zs : Int) (hid (by rw [if_neg hall]))
    have K0 := hid (Kept.start hlt)
    obtain ⟨f0, hf0⟩ : ∃ f0, lead n zs = f0 := ⟨_, rfl⟩
    rw [hf0] at hix K0
    have hf1 : f0 < L := by have := HL.out; omega
    have hne : ((f0 : Int) == -1) = false := by simp <;> omega
    clear hall hle hlt hf0
    have hI := fun k (hk : k < L) => idx_at1 (P := Try.prog) (T := 29) Try.underlying29 szI (a := some ⟨g, 0, none⟩) (cap := cap) (fun _ => rfl) hk
    rw [show sB (some ⟨g, 0, none⟩) = g from rfl, show sO (some ⟨g, 0, none⟩) = 0 from rfl] at hI
    go_enter Try.func21, Try.ntmps21
    go_wp2_with fail
    refine hix.mono ?_
    rintro e w1 ⟨rfl, rfl⟩
    go_wp2_with fail
    go_loopw [5, 6] (fun si sj wr => ∃ (i j : Nat) (dk : List Int), si = .int .i64 (i : Int) ∧ sj = .int .i64 (j : Int) ∧ Hid (Kept n zs dk i j) ∧ j ≤ L ∧ i < j ∧ wr.ownsRow base 3 1 (.slice (some ⟨g, 0, none⟩) L cap) L (I8 dk) ∧ Below base w wr) (fun _ sj _ => L - (intOf sj).toNat)
    case atStart => exact ⟨f0, f0 + 1, zs, by go_num, by go_num, K0, by omega, by omega, ho, Below.refl _ _⟩
    case round =>
      obtain ⟨i, j, dk, rfl, rfl, K, hjL, hij, od, Bw⟩ := hrel
      have hbox := Below.cellAt Bw hbb hb
      by_cases hin : j < L
      · have hixj := hI j hin
        have hixi := hI i (by omega)
        rw [Nat.zero_add] at hixj hixi
        have hcj := od.cellAt j (by omega)
        rw [I8_get (by rw [K.out.len, HL.out]; exact hin), K.out.high j (Nat.le_refl _)] at hcj
        have hci := od.cellAt i (by omega)
        rw [I8_get (by rw [K.out.len, HL.out]; omega)] at hci
        have hfi := od.frozenAt i
        obtain ⟨x, hx⟩ : ∃ x, zs[j]?.getD 0 = x := ⟨_, rfl⟩
        rw [hx] at hcj
        have HX := hid hx
        clear hx
        have hst := od.stored i (.int .i64 x)
        rw [I8_set] at hst
        have HST := hid hst
        clear hst
        go_wp2_with fail
        refine (pred_any x b a n c wr hbox).mono ?_
        rintro e w2 ⟨rfl, rfl⟩
        cases hq : nodeB n x with
        | true =>
          go_wp2_with fail
          go_roundw
          case rel => exact ⟨i + 1, j + 1, dk.set i x, by go_num, by go_num, hid (by have := K.out.keep (by rw [HL.out]; exact hin) (by rw [HX.out]; exact hq); rwa [HX.out] at this), by omega, by omega, HST.out.1, Bw.grown HST.out.2 (Below.le Bw hbase) (by rintro q hq; cases hq; exact hg)⟩
          case measure => simp [intOf]; omega
        | false =>
          go_wp2_with fail
          go_roundw
          case rel => exact ⟨i, j + 1, dk, rfl, by go_num, hid (K.out.skip (by rw [HL.out]; exact hin) (by rw [HX.out]; exact hq)), by omega, by omega, od, Bw⟩
          case measure => simp [intOf]; omega
      · obtain rfl : j = L := by omega
        have hcl : ∀ ty, (Builtin.clear_ #[29] ty #[.slice (some ⟨g, i, none⟩) (j - i) (cap - i)]).run Try.prog wr = .ok (.tuple #[]) (wr.setCells g i (List.replicate (j - i) (.int .i64 0))) :=
          fun ty => Lib.run_clear_slice wr 29 3 ty (.int .i64 0) Try.underlying29 zeroI rfl rfl g i (j - i) (cap - i) (by omega)
            (fun t ht => by rw [od.cellAt (i + t) (by omega), I8_get (by rw [K.out.len, HL.out]; omega)]; rfl) (fun t ht => od.frozenAt (i + t))
        have hc1 : (0 : Int) ≤ (i : Int) := by omega
        have hc2 : (i : Int) ≤ (j : Int) := by omega
        have hc3 : (i : Int) ≤ (cap : Int) := by omega
        have Bw2 : Below base w (wr.setCells g i (List.replicate (j - i) (.int .i64 0))) := below_setCells hg _ _ _ Bw
        have rw2 : Row (wr.setCells g i (List.replicate (j - i) (.int .i64 0))) (some ⟨g, 0, none⟩) (I8 (zs.filter (nodeB n))) := by
          have hd : dk.take i = zs.filter (nodeB n) := Kept.done (by have := K.out; rwa [← HL.out] at this)
          rw [← hd]
          refine ⟨fun _ => rfl, fun k v hv => ?_⟩
          have hk : k < i := by
            have := (List.getElem?_eq_some_iff.1 hv).1
            simp at this; omega
          show (wr.setCells g i _).cell? ⟨g, 0 + k, none⟩ = some v
          rw [Nat.zero_add, World.cell?_setCells_out _ _ _ _ _ (fun _ _ => .inl hk), od.cellAt k (by omega), ← hv]
          simp [I8, hk]
        have hmm : i = (zs.filter (nodeB n)).length := by
          have hd : dk.take i = zs.filter (nodeB n) := Kept.done (by have := K.out; rwa [← HL.out] at this)
          rw [← hd, List.length_take, K.out.len, HL.out]; omega
        have HM := hid hmm
        clear hmm hI
        go_wp2_with fail
        go_ret
        exact ⟨i, rfl, HM.out, rw2, Bw2⟩

set_option maxRecDepth 100000 in
theorem deleteFunc_nil (b : Nat) (a : Option Addr) (n c : Nat) (w : World) (hb : Box w b a n c) :
    Calls Try.prog 21 #[.slice none 0 0, .func (.func 23) #[] #[.pointer (some ⟨b, 0, none⟩)]] w fun e w' => e = .returned (.slice none 0 0) ∧ w = w' := by
  go_enter Try.func21, Try.ntmps21
  go_wp2_with fail
  refine (indexFunc_any none 0 0 [] b a n c w hb (Row.nil _ _) rfl (by decide) (-1) (hid (by simp [lead]))).mono ?_
  rintro e w1 ⟨rfl, rfl⟩
  go_wp2_with fail
  go_ret
  exact ⟨rfl, rfl⟩

/-- a slice of ints that is read: none of its block's cells is asked for if it is empty -/
structure IntsAt (w : World) (a : Option Addr) (m c : Nat) (zs : List Int) : Prop where
  row : Row w a (I8 zs)
  len : zs.length = m
  nil : a = none → m = 0 ∧ c = 0
  cap : m ≤ c
  capm : c ≤ maxLen

set_option maxRecDepth 100000 in
set_option maxHeartbeats 2000000 in
theorem followers_any (ea : Option Addr) (n ec k : Nat) (ak : Option Addr) (lk ck : Nat) (zs : List Int) (w : World) (hk : k < n) (he : ea = some ⟨sB ea, sO ea, none⟩) (hc : w.cell? ⟨sB ea, sO ea + k, none⟩ = some (.slice ak lk ck)) (hi : IntsAt w ak lk ck zs) (hm : lk ≤ 1000000) :
    Calls Try.prog 14 #[.slice ea n ec, .int .i64 k] w fun e w' => ∃ a' m c', e = .returned (.slice a' m c') ∧ IntsAt w' a' m c' (zs.filter (nodeB n)) ∧ (a' ≠ none → w.heap.size < sB a' ∧ sB a' < w'.heap.size) ∧ sO a' = 0 ∧ Below w.heap.size w w' := by
  have hix := idx_at1 (P := Try.prog) (T := 22) Try.underlying22 (show (Try.prog.info? 29).map (·.size) = some 1 by kernel_rfl) (cap := ec) (fun _ => he) hk
  have hc2 := fun o => cell_alloc o hc
  clear he
  go_enter Try.func14, Try.ntmps14
  go_wp2_with fail
  refine (cloneI_any ak lk ck zs _ (hi.row.alloc _) hi.len hi.nil hm).mono ?_
  rintro e w1 ⟨v1, rfl, o1, B1⟩
  have hbox0 : Box (w.alloc (.cells #[.slice ea n ec] 22)) w.heap.size ea n ec := blk_cell (blk_new w _) (by simp)
  have hbox : Box w1 w.heap.size ea n ec := Below.cellAt B1 (by simp) hbox0
  have hB : Below w.heap.size w w1 := ((Below.refl _ w).alloc (Nat.le_refl _) _).trans (B1.mono (by simp))
  clear hix hc2 hbox0
  rcases o1.2 with ⟨hv, hx⟩ | ⟨g, cap, cur, hv, hg, _⟩
  · subst hv
    go_wp2_with fail
    refine (deleteFunc_nil _ ea n ec w1 hbox).mono ?_
    rintro e w2 ⟨rfl, rfl⟩
    go_wp2_with fail
    go_ret
    have : zs = [] := List.eq_nil_of_length_eq_zero (by have := hi.len; omega)
    subst this
    exact ⟨none, 0, 0, rfl, ⟨Row.nil _ _, rfl, fun _ => ⟨rfl, rfl⟩, Nat.le_refl _, by simp [maxLen]⟩, fun h => (h rfl).elim, rfl, hB⟩
  · subst hv
    obtain ⟨a', c', hv, _, hcap, hcm, _, _, _⟩ := row_of_owns o1
    cases hv
    have hgl := (o1.lt g rfl).2
    go_wp2_with fail
    refine (deleteFunc_any g lk cap zs _ ea n ec _ w1 hbox (by simp) o1 hm).mono ?_
    rintro e w2 ⟨m, rfl, rfl, hrow, B2⟩
    have s1 := B1.size
    have s2 := B2.size
    go_wp2_with fail
    go_ret
    have hfl : (zs.filter (nodeB n)).length ≤ zs.length := List.length_filter_le _ _
    have hzl := hi.len
    simp at hg
    exact ⟨some ⟨g, 0, none⟩, _, cap, rfl, ⟨hrow, rfl, (fun h => by cases h), by omega, hcm⟩, fun _ => ⟨(by show w.heap.size < g; omega), (by show g < w2.heap.size; omega)⟩, rfl, hB.trans (B2.mono (by simp))⟩

end Go.Proofs.Ytkflhmpecfckfaa
