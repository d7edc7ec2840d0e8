/- scc.finder.close: a part is told and leaves the stack -/
import Derived.Test.YtkflhmpecfckfaaFin
import Derived.Test.YtkflhmpecfckfaaT2
open Go Go.RowKit
namespace Go.Proofs.Ytkflhmpecfckfaa
open Tj

/-- the least of a list -/
structure MinOf (zs : List Int) (m : Int) : Prop where
  mem : m ∈ zs
  le : ∀ y ∈ zs, m ≤ y

theorem MinOf.one (z : Int) : MinOf [z] z := ⟨by simp, by simp⟩
theorem MinOf.snoc {zs : List Int} {m : Int} (h : MinOf zs m) (z : Int) : MinOf (zs ++ [z]) (min m z) := by
  refine ⟨?_, fun y hy => ?_⟩
  · rcases Int.le_total m z with e | e
    · rw [Int.min_eq_left e]; exact List.mem_append_left _ h.mem
    · rw [Int.min_eq_right e]; simp
  · rcases List.mem_append.1 hy with hy | hy
    · have := h.le y hy; omega
    · simp at hy; omega
theorem MinOf.unique {zs : List Int} {m n : Int} (h : MinOf zs m) (k : MinOf zs n) : m = n := by
  have h1 := h.le n k.mem
  have h2 := k.le m h.mem
  omega
theorem MinOf.least {l : List Nat} (hl : l ≠ []) : MinOf (l.map Int.ofNat) (least l : Int) := by
  refine ⟨List.mem_map.2 ⟨_, least_mem l hl, rfl⟩, fun y hy => ?_⟩
  obtain ⟨x, hx, rfl⟩ := List.mem_map.1 hy
  have := least_le l x hx
  simp; omega

set_option maxHeartbeats 1000000 in
theorem minI_any (a : Option Addr) (len cap : Nat) (zs : List Int) (w : World) (h : Row w a (I8 zs)) (hl : zs.length = len) (hp : 0 < len) (hm : len ≤ 1000000) :
    Calls Try.prog 29 #[.slice a len cap] w fun e w' => ∃ m, e = .returned (.int .i64 m) ∧ MinOf zs m ∧ w = w' := by
  have hix := fun k (hk : k < len) => idx_at1 (P := Try.prog) (T := 29) Try.underlying29 szI (cap := cap) (fun _ => h.nn (by simp; omega)) hk
  have hix0 : (Instr.indexAt 29 (.slice a len cap) (.int .i64 0)).run Try.prog w = .ok (.pointer (some ⟨sB a, sO a, none⟩)) w := hix 0 hp w
  have hc0 : w.cell? ⟨sB a, sO a, none⟩ = some (.int .i64 (zs[0]?.getD 0)) := h.num (i := 0) (by omega)
  have HL := hid hl
  have M1 : Hid (MinOf (zs.take 1) (zs[0]?.getD 0)) := hid (by
    have := take_succ_get (zs := zs) (j := 0) (by omega)
    rw [this]; simpa using MinOf.one _)
  obtain ⟨m0, hm0⟩ : ∃ m0, zs[0]?.getD 0 = m0 := ⟨_, rfl⟩
  rw [hm0] at hc0 M1
  clear hl hm0
  go_enter Try.func29, Try.ntmps29
  go_wp2_with fail
  go_loop [3, 4] (fun x i => ∃ (k : Nat) (m : Int), 1 ≤ k ∧ k ≤ len ∧ i = .int .i64 k ∧ x = .int .i64 m ∧ Hid (MinOf (zs.take k) m)) (fun _ i => len - (intOf i).toNat)
  case atStart => exact ⟨1, _, by omega, by omega, rfl, rfl, M1⟩
  case round =>
    obtain ⟨k, m, hk1, hk, rfl, rfl, M⟩ := hrel
    by_cases hin : k < len
    · have hix := hix k hin
      have hc := h.num (i := k) (by rw [HL.out]; exact hin)
      go_wp2_with fail
      go_round
      case rel =>
        refine ⟨k + 1, _, by omega, by omega, by go_num, rfl, hid ?_⟩
        rw [take_succ_get (by rw [HL.out]; exact hin)]
        exact M.out.snoc _
      case measure => simp [intOf]; omega
    · obtain rfl : k = len := by omega
      have M := M.out
      rw [← HL.out, List.take_length] at M
      have M := hid M
      go_wp2_with fail
      go_ret
      exact ⟨m, rfl, M.out, rfl⟩

theorem seg_form : ∀ {l : List Nat} {k : Nat}, k ∈ l → ∃ pre, seg l k = pre ++ [k] ∧ k ∉ pre
  | [], k, h => by simp at h
  | x :: l, k, h => by
    by_cases e : x = k
    · exact ⟨[], by simp [seg, e], by simp⟩
    · have : k ∈ l := by simpa [Ne.symm e] using h
      obtain ⟨pre, h1, h2⟩ := seg_form this
      exact ⟨x :: pre, by simp [seg, e, h1], by simp [Ne.symm e, h2]⟩

/-- the stack, a part at its top -/
structure Cutk (l : List Nat) (k : Nat) (d : List Nat) (r : Nat) : Prop where
  len : l.length = r + d.length
  row : stkRow l = stkRow (rest l k) ++ d.map Int.ofNat
  rl : (rest l k).length = r
  pos : 0 < d.length
  first : d[0]?.getD 0 = k
  other : ∀ i, 0 < i → i < d.length → d[i]?.getD 0 ≠ k
  least : MinOf (d.map Int.ofNat) (least (seg l k) : Int)
  all : ∀ x, x ∈ d ↔ x ∈ seg l k
theorem Cutk.of {l : List Nat} {k : Nat} (h : k ∈ l) : ∃ d r, Cutk l k d r := by
  obtain ⟨pre, h1, h2⟩ := seg_form h
  have hs := seg_rest l k h
  refine ⟨(seg l k).reverse, (rest l k).length, ?_, ?_, rfl, ?_, ?_, ?_, ?_, by simp⟩
  · rw [List.length_reverse, ← List.length_append.trans (Nat.add_comm _ _), hs]
  · conv => lhs; rw [← hs]
    simp [stkRow]
  · simp [h1]
  · simp [h1]
  · intro i hi hl e
    rw [h1, List.reverse_append] at hl e
    simp at hl
    obtain ⟨j, rfl⟩ : ∃ j, i = j + 1 := ⟨i - 1, by omega⟩
    have hj : j < pre.reverse.length := by simp; omega
    have e : pre.reverse[j]?.getD 0 = k := by simpa using e
    rw [List.getElem?_eq_getElem hj] at e
    exact h2 (List.mem_reverse.1 (e ▸ List.getElem_mem hj))
  · have := MinOf.least (l := seg l k) (by simp [h1])
    exact ⟨by simpa using this.mem, fun y hy => this.le y (by simpa using hy)⟩
theorem Cutk.at {l : List Nat} {k : Nat} {d : List Nat} {r : Nat} (h : Cutk l k d r) {i : Nat} (hi : i < d.length) : (stkRow l)[r + i]?.getD 0 = (d[i]?.getD 0 : Nat) := by
  have hl : (stkRow (rest l k)).length = r := by simp [stkRow, h.rl]
  rw [h.row, List.getElem?_append_right (by omega), hl, Nat.add_sub_cancel_left, List.getElem?_map, List.getElem?_eq_getElem hi]
  rfl
theorem Cutk.drop {l : List Nat} {k : Nat} {d : List Nat} {r : Nat} (h : Cutk l k d r) : (stkRow l).drop r = d.map Int.ofNat := by
  have hl : (stkRow (rest l k)).length = r := by simp [stkRow, h.rl]
  rw [h.row, ← hl, List.drop_left]
theorem Cutk.take {l : List Nat} {k : Nat} {d : List Nat} {r : Nat} (h : Cutk l k d r) : (stkRow l).take r = stkRow (rest l k) := by
  have hl : (stkRow (rest l k)).length = r := by simp [stkRow, h.rl]
  rw [h.row, ← hl, List.take_left]
theorem updAll_step {α : Type} (f : Nat → α) {d : List Nat} {i : Nat} (hi : i < d.length) (v : α) : upd (updAll f (d.take i) v) (d[i]?.getD 0) v = updAll f (d.take (i + 1)) v := by
  funext x
  have e : d.take (i + 1) = d.take i ++ [d[i]?.getD 0] := by rw [List.take_add_one, List.getElem?_eq_getElem hi]; rfl
  unfold upd updAll
  rw [e]
  by_cases h : x = d[i]?.getD 0
  · simp [h]
  · simp [h]
theorem updAll_all {α : Type} (f : Nat → α) {d l : List Nat} (h : ∀ x, x ∈ d ↔ x ∈ l) (v : α) : updAll f (d.take d.length) v = updAll f l v := by
  funext x
  unfold updAll
  rw [List.take_length]
  simp only [h]
theorem owns_take {w : World} {base : Nat} {E : TypeId} {g n cap : Nat} {vs : List Value} (h : w.ownsRow base E 1 (.slice (some ⟨g, 0, none⟩) n cap) n vs) {r : Nat} (hr : r ≤ n) : w.ownsRow base E 1 (.slice (some ⟨g, 0, none⟩) r cap) r (vs.take r) := by
  obtain ⟨h1, h2⟩ := h
  refine ⟨by simp; omega, ?_⟩
  rcases h2 with ⟨hv, _⟩ | ⟨g', cap', cur, hv, hg, hh, hn, hc, hs, ht⟩
  · cases hv
  · cases hv
    refine .inr ⟨g, cap, cur, rfl, hg, hh, by omega, hc, hs, ?_⟩
    rw [← ht, List.take_take]
    congr 1
    omega
theorem sss_set {w : World} {f gi gp N k : Nat} {b o : Nat} {v : Value} (hb : f ≠ b) (h : w.cell? ⟨f, 3, none⟩ = some (.slice (some ⟨gi, 0, none⟩) N N) ∧ w.cell? ⟨f, 6, none⟩ = some (.slice (some ⟨gp, 0, none⟩) N N) ∧
    w.cell? ⟨gi, k, none⟩ = some (val w gi k) ∧ w.cell? ⟨gp, k, none⟩ = some (val w gp k) ∧ w.frozen? ⟨gi, k, none⟩ = false ∧ w.frozen? ⟨gp, k, none⟩ = false) :
    (w.setCell ⟨b, o, none⟩ v).cell? ⟨f, 3, none⟩ = some (.slice (some ⟨gi, 0, none⟩) N N) ∧ (w.setCell ⟨b, o, none⟩ v).cell? ⟨f, 6, none⟩ = some (.slice (some ⟨gp, 0, none⟩) N N) ∧
    (w.setCell ⟨b, o, none⟩ v).cell? ⟨gi, k, none⟩ = some (val (w.setCell ⟨b, o, none⟩ v) gi k) ∧ (w.setCell ⟨b, o, none⟩ v).cell? ⟨gp, k, none⟩ = some (val (w.setCell ⟨b, o, none⟩ v) gp k) ∧ (w.setCell ⟨b, o, none⟩ v).frozen? ⟨gi, k, none⟩ = false ∧ (w.setCell ⟨b, o, none⟩ v).frozen? ⟨gp, k, none⟩ = false := by
  obtain ⟨h1, h2, h3, h4, h5, h6⟩ := h
  have hf : ∀ j, (w.setCell ⟨b, o, none⟩ v).cell? ⟨f, j, none⟩ = w.cell? ⟨f, j, none⟩ := fun j => World.cell?_setCell_other _ _ _ _ (fun e => by cases e; exact hb rfl)
  refine ⟨(hf 3).trans h1, (hf 6).trans h2, has_set h3, has_set h4, ?_, ?_⟩
  · simpa using h5
  · simpa using h6

set_option maxRecDepth 100000 in
set_option maxHeartbeats 4000000 in
theorem close_any {w : World} {b : FB} {ev stv : Value} {N : Nat} {s : St} (hb : b.Ok) (h : Fin w b ev stv N s) (k : Nat) (hk : k < N) (hks : k ∈ s.stk) (hlt : ∀ v ∈ s.stk, v < N) (hl : s.stk.length ≤ 1000000) :
    Calls Try.prog 25 #[.pointer (some ⟨b.f, 0, none⟩), .int .i64 k] w fun e w' => e = .returned (.tuple #[]) ∧ (∃ stv', Fin w' b ev stv' N (s.close k)) ∧ Ext (b.may1 stv) w w' := by
  have H := hid h
  obtain ⟨d, r, C⟩ := Cutk.of hks
  obtain ⟨f, go, gl, gi, gp, base⟩ := b
  have h1 := h.obj
  have h2 := h.ord
  have h3 := h.low
  have h4 := h.inS
  have h5 := h.part
  have h6 := h.stk
  have hbs := h.base
  obtain ⟨n1, n2, n3, n4, n5, n6, n7, n8, n9, n10, l1, l2, l3, l4, l5⟩ := hb
  simp only at *
  have hk1 : (0 : Int) ≤ (k : Int) := by omega
  have hk2 : (k : Int) < (N : Int) := by omega
  have c1 := blk_cell h1 (o := 1) rfl
  have c2 := blk_cell h1 (o := 2) rfl
  have c3 := blk_cell h1 (o := 3) rfl
  have c4 := blk_cell h1 (o := 4) rfl
  have co := blk_cell h2 (tab_get hk)
  have cl := blk_cell h3 (tab_get hk)
  clear h
  by_cases hne : s.low k = s.ord k
  · have HE := hid hne
    rw [hne] at cl
    clear hne
    have hpos : 0 < s.stk.length := by have := C.len; have := C.pos; omega
    obtain ⟨g, cp, rfl⟩ : ∃ g cp, stv = .slice (some ⟨g, 0, none⟩) s.stk.length cp := by
      rcases h6.2 with ⟨_, h0⟩ | ⟨g, cap, cur, hv, _⟩
      · omega
      · exact ⟨g, cap, hv⟩
    obtain ⟨L, hL⟩ : ∃ L, s.stk.length = L := ⟨_, rfl⟩
    have CL := C.len
    rw [hL] at h6 h1 hpos hl CL c4
    have HL := hid hL
    have HCL := hid CL
    clear hL CL
    have S0 : w.drew.cell? ⟨f, 1, none⟩ = some (.slice (some ⟨go, 0, none⟩) N N) ∧ w.drew.cell? ⟨f, 2, none⟩ = some (.slice (some ⟨gl, 0, none⟩) N N) ∧ w.drew.cell? ⟨go, k, none⟩ = some (.int .i64 (s.ord k : Int)) ∧ w.drew.cell? ⟨gl, k, none⟩ = some (.int .i64 (s.ord k : Int)) := ⟨c1, c2, co, cl⟩
    go_enter Try.func25, Try.ntmps25
    go_wp2_with fail
    go_region_held3 (fun w' => w'.cell? ⟨f, 1, none⟩ = some (.slice (some ⟨go, 0, none⟩) N N) ∧ w'.cell? ⟨f, 2, none⟩ = some (.slice (some ⟨gl, 0, none⟩) N N) ∧ w'.cell? ⟨go, k, none⟩ = some (.int .i64 (s.ord k : Int)) ∧ w'.cell? ⟨gl, k, none⟩ = some (.int .i64 (s.ord k : Int))) (first | exact S0 | assumption) (fail)
    go_wp2_with fail
    obtain ⟨w1, hw1⟩ : ∃ w1, w1 = w.drew := ⟨_, rfl⟩
    have e1 : w1.heap = w.heap := by rw [hw1]; rfl
    have y1 := (congrArg (fun H : Array Obj => H[f]?) e1).trans h1
    have y2 := (congrArg (fun H : Array Obj => H[go]?) e1).trans h2
    have y3 := (congrArg (fun H : Array Obj => H[gl]?) e1).trans h3
    have y4 := (congrArg (fun H : Array Obj => H[gi]?) e1).trans h4
    have y5 := (congrArg (fun H : Array Obj => H[gp]?) e1).trans h5
    have y6 : w1.ownsRow base 3 1 (.slice (some ⟨g, 0, none⟩) L cp) L (I8 (stkRow s.stk)) := by rw [hw1]; exact h6
    have x1 : Ext (FB.may1 ⟨f, go, gl, gi, gp, base⟩ (.slice (some ⟨g, 0, none⟩) L cp)) w w1 := hw1 ▸ (Ext.refl _ _).drew
    rw [← hw1]
    clear hw1 e1 h1 h2 h3 h4 h5 h6 c1 c2 c3 c4 co cl S0
    have c4 : w1.cell? ⟨f, 4, none⟩ = some (.slice (some ⟨g, 0, none⟩) L cp) := blk_cell y1 rfl
    go_loop [4] (fun v => ∃ j : Nat, r ≤ j ∧ j < L ∧ v = .int .i64 j) (fun v => (intOf v).toNat)
    case atStart => exact ⟨L - 1, by have := C.pos; have := HCL.out; omega, by omega, by go_num⟩
    case round =>
      obtain ⟨j, hj1, hj2, rfl⟩ := hrel
      have hcj : w1.cell? ⟨g, j, none⟩ = some (.int .i64 ((d[j - r]?.getD 0 : Nat) : Int)) := by
        rw [y6.cellAt j (by omega), I8_get (by simp [stkRow, HL.out]; exact hj2)]
        have := C.at (i := j - r) (by have := HCL.out; omega)
        rw [show r + (j - r) = j by omega] at this
        rw [this]
      have hj3 : (0 : Int) ≤ (j : Int) := by omega
      have hj4 : (j : Int) < (L : Int) := by omega
      obtain ⟨hcp, ry⟩ : L ≤ cp ∧ Row w1 (some ⟨g, j, none⟩) (I8 ((stkRow s.stk).drop j)) := by
        obtain ⟨a', c', hv, _, h1, h2, h3, _, _⟩ := row_of_owns y6
        cases hv
        exact ⟨h1, by have := h3.drop j; rwa [Nat.zero_add, I8, ← List.map_drop] at this⟩
      by_cases hjr : j = r
      · subst hjr
        rw [Nat.sub_self, C.first] at hcj
        rw [C.drop] at ry
        go_wp2_with fail
        refine (minI_any _ _ _ (d.map Int.ofNat) w1 ry (by simp; have := HCL.out; omega) (by omega) (by omega)).mono ?_
        rintro e w2 ⟨m, rfl, hm, rfl⟩
        obtain rfl := hm.unique C.least
        go_wp2_with fail
        have hg : base ≤ g := (y6.lt g rfl).1
        have hD : L - j = d.length := by have := HCL.out; omega
        rw [hD]
        have HD := hid hD
        clear hD ry hcj
        obtain ⟨M, hM⟩ : ∃ M, Tj.least (seg s.stk k) = M := ⟨_, rfl⟩
        rw [hM]
        have HM := hid hM
        clear hM
        obtain ⟨D, hDD⟩ : ∃ D, d.length = D := ⟨_, rfl⟩
        rw [hDD]
        have HDD := hid hDD
        clear hDD
        have hDb : D ≤ 1000000 := by have := HD.out; have := HDD.out; omega
        go_loopw [51] (fun v wr => ∃ i : Nat, v = .int .i64 i ∧ i ≤ D ∧ wr.heap[gp]? = some (.cells (tab N (updAll s.part (d.take i) M)).toArray 3 (0, 0)) ∧ wr.heap[gi]? = some (.cells (tabB N (updAll s.inS (d.take i) false)).toArray 4 (0, 0)) ∧ Ext (fun q => q = gp ∨ q = gi) w1 wr) (fun v _ => D - (intOf v).toNat)
        case atStart => exact ⟨0, rfl, Nat.zero_le _, y5, y4, Ext.refl _ _⟩
        case round =>
          obtain ⟨i, rfl, hi, z5, z4, xr⟩ := hrel
          have z1 := xr.blk (show ¬ (f = gp ∨ f = gi) by omega) y1
          have z6 := xr.owns (fun q hq => by have := (y6.lt q hq).1; omega) y6
          by_cases hin : i < D
          · have hdm : d[i]?.getD 0 ∈ s.stk := by
              have h1 : i < d.length := by rw [HDD.out]; exact hin
              have := (C.all _).1 (List.getElem_mem h1)
              rw [List.getElem?_eq_getElem h1]
              have h2 := seg_rest s.stk k hks
              rw [← h2]
              exact List.mem_append_left _ this
            have hxN := hlt _ hdm
            have hcx : wr.cell? ⟨g, j + i, none⟩ = some (.int .i64 ((d[i]?.getD 0 : Nat) : Int)) := by
              rw [z6.cellAt (j + i) (by have := HD.out; have := HDD.out; omega), I8_get (by simp [stkRow, HL.out]; have := HD.out; have := HDD.out; omega), C.at (by rw [HDD.out]; exact hin)]
            have u1 := updAll_step s.part (show i < d.length by rw [HDD.out]; exact hin) M
            have u2 := updAll_step s.inS (show i < d.length by rw [HDD.out]; exact hin) false
            obtain ⟨x, hx⟩ : ∃ x, d[i]?.getD 0 = x := ⟨_, rfl⟩
            rw [hx] at hxN hcx u1 u2
            clear hdm hx
            have U1 := hid u1
            have U2 := hid u2
            clear u1 u2
            have hx1 : (0 : Int) ≤ (x : Int) := by omega
            have hx2 : (x : Int) < (N : Int) := by omega
            have S0 : wr.drew.cell? ⟨f, 3, none⟩ = some (.slice (some ⟨gi, 0, none⟩) N N) ∧ wr.drew.cell? ⟨f, 6, none⟩ = some (.slice (some ⟨gp, 0, none⟩) N N) ∧ wr.drew.cell? ⟨gi, x, none⟩ = some (val wr.drew gi x) ∧ wr.drew.cell? ⟨gp, x, none⟩ = some (val wr.drew gp x) ∧ wr.drew.frozen? ⟨gi, x, none⟩ = false ∧ wr.drew.frozen? ⟨gp, x, none⟩ = false :=
              ⟨blk_cell z1 rfl, blk_cell z1 rfl, has_of (blk_cell z4 (tabB_get hxN)), has_of (blk_cell z5 (tab_get hxN)), blk_free z4, blk_free z5⟩
            clear z1 z6
            go_wp2_with fail
            go_region_held3 (fun w' => w'.cell? ⟨f, 3, none⟩ = some (.slice (some ⟨gi, 0, none⟩) N N) ∧ w'.cell? ⟨f, 6, none⟩ = some (.slice (some ⟨gp, 0, none⟩) N N) ∧ w'.cell? ⟨gi, x, none⟩ = some (val w' gi x) ∧ w'.cell? ⟨gp, x, none⟩ = some (val w' gp x) ∧ w'.frozen? ⟨gi, x, none⟩ = false ∧ w'.frozen? ⟨gp, x, none⟩ = false) (first | exact S0 | exact sss_set n3 (by assumption) | exact sss_set n4 (by assumption) | assumption) (fail)
            all_goals
              go_wp2_with fail
              go_roundw
              case measure => simp [intOf]; omega
              case rel =>
                refine ⟨i + 1, by go_num, by omega, ?_, ?_, ?_⟩
                · first
                    | exact (heap_set_ne n10.symm).trans ((blk_setCell z5 _).trans (congrArg (fun c => some (Obj.cells c 3 (0, 0))) ((tab_set hxN).trans (by rw [U1.out]))))
                    | exact (blk_setCell ((heap_set_ne n10.symm).trans z5) _).trans (congrArg (fun c => some (Obj.cells c 3 (0, 0))) ((tab_set hxN).trans (by rw [U1.out])))
                · first
                    | exact (blk_setCell ((heap_set_ne n10).trans z4) _).trans (congrArg (fun c => some (Obj.cells c 4 (0, 0))) ((tabB_set hxN).trans (by rw [U2.out])))
                    | exact (heap_set_ne n10).trans ((blk_setCell z4 _).trans (congrArg (fun c => some (Obj.cells c 4 (0, 0))) ((tabB_set hxN).trans (by rw [U2.out]))))
                · exact ((xr.setC (by simp)).setC (by simp)).drew
          · obtain rfl : i = D := by omega
            have z2 := xr.blk (show ¬ (go = gp ∨ go = gi) by omega) y2
            have z3 := xr.blk (show ¬ (gl = gp ∨ gl = gi) by omega) y3
            have z7 := owns_take z6 (r := j) (by omega)
            rw [← HDD.out, updAll_all _ C.all] at z4 z5
            have e4 : (I8 (stkRow s.stk)).take j = I8 (stkRow (Tj.rest s.stk k)) := by rw [I8, I8, ← List.map_take, C.take]
            rw [e4] at z7
            have x5 : Ext (FB.may1 ⟨f, go, gl, gi, gp, base⟩ (.slice (some ⟨g, 0, none⟩) L cp)) w wr := x1.trans xr (fun q _ hq => by rcases hq with rfl | rfl <;> first | exact FB.may1_gp | exact FB.may1_gi)
            have c4 : wr.cell? ⟨f, 4, none⟩ = some (.slice (some ⟨g, 0, none⟩) L cp) := blk_cell z1 rfl
            have f4 : wr.frozen? ⟨f, 4, none⟩ = false := blk_free z1
            have hj5 : (j : Int) ≤ (cp : Int) := by omega
            have Z7 := hid z7
            have RL := hid C.rl
            clear e4 z6 z7
            go_wp2_with fail
            try simp only [Exit.inBlock, Exit.then]
            refine bodyPost_end (results_none rfl _ _ _) rfl ?_
            have H := H.out
            have e : s.close k = { s with part := updAll s.part (seg s.stk k) (Tj.least (seg s.stk k)), inS := updAll s.inS (seg s.stk k) false, stk := Tj.rest s.stk k } := by unfold St.close; rw [if_neg (fun h => h HE.out)]
            rw [e, HM.out]
            refine ⟨rfl, ⟨_, blk_setCell z1 _, (heap_set_ne n1.symm).trans z2, (heap_set_ne n2.symm).trans z3, (heap_set_ne n3.symm).trans z4, (heap_set_ne n4.symm).trans z5, ?_, H.small, H.clk, ?_⟩, x5.setC FB.may1_f⟩
            · show World.ownsRow _ base _ _ _ (Tj.rest s.stk k).length _
              rw [RL.out]
              exact ownsRow_setCell_below Z7.out (show Addr.block ⟨f, 4, none⟩ < base from l1) _
            · have := x5.size
              have := H.base
              simp at this ⊢
              omega
      · have hx := C.other (j - r) (by omega) (by have := HCL.out; omega)
        obtain ⟨x, hxe⟩ : ∃ x, d[j - r]?.getD 0 = x := ⟨_, rfl⟩
        rw [hxe] at hx hcj
        clear hxe
        have hx2 : ((x : Int) == (k : Int)) = false := by simp; omega
        go_wp2_with fail
        go_round
        case rel => exact ⟨j - 1, by omega, by omega, by go_num⟩
        case measure => simp [intOf]; omega
  · have HE := hid hne
    have hne : ((s.low k : Int) == (s.ord k : Int)) = false := by simp; omega
    have S0 : w.drew.cell? ⟨f, 1, none⟩ = some (.slice (some ⟨go, 0, none⟩) N N) ∧ w.drew.cell? ⟨f, 2, none⟩ = some (.slice (some ⟨gl, 0, none⟩) N N) ∧ w.drew.cell? ⟨go, k, none⟩ = some (.int .i64 (s.ord k : Int)) ∧ w.drew.cell? ⟨gl, k, none⟩ = some (.int .i64 (s.low k : Int)) := ⟨c1, c2, co, cl⟩
    go_enter Try.func25, Try.ntmps25
    go_wp2_with fail
    go_region_held3 (fun w' => w'.cell? ⟨f, 1, none⟩ = some (.slice (some ⟨go, 0, none⟩) N N) ∧ w'.cell? ⟨f, 2, none⟩ = some (.slice (some ⟨gl, 0, none⟩) N N) ∧ w'.cell? ⟨go, k, none⟩ = some (.int .i64 (s.ord k : Int)) ∧ w'.cell? ⟨gl, k, none⟩ = some (.int .i64 (s.low k : Int))) (first | exact S0 | assumption) (fail)
    all_goals
      go_wp2_with fail
      try simp only [Exit.inBlock, Exit.then]
      refine bodyPost_ret (results_none rfl _ _ _) rfl ?_
      refine ⟨rfl, ⟨stv, ?_⟩, (Ext.refl _ _).drew⟩
      have e : s.close k = s := by unfold St.close; rw [if_pos HE.out]
      rw [e]
      have H := H.out
      exact ⟨H.obj, H.ord, H.low, H.inS, H.part, H.stk, H.small, H.clk, H.base⟩

end Go.Proofs.Ytkflhmpecfckfaa
