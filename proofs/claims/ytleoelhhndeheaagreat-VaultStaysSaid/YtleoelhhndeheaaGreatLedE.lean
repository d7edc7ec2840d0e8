import Derived.Test.YtleoelhhndeheaaGreatLvs
import Derived.Test.YtleoelhhndeheaaGreatStepRow
import Derived.Test.YtleoelhhndeheaaGreatLedD
/- slices of entries of one's own -/
open Go Go.RowKit
namespace Go.Proofs.YtleoelhhndeheaaGreat

theorem step_append_gen {P : Program} {ops : Array Oper} {o : Oper} {act : Act} {w : World} {K : Act → World → Prop} {Q : Exit → Act → World → Prop} {E : Prop} (hgd : o.guard = none) (s x : Operand) (t : TypeId)
    (ho : o.op = .call { callee := .builtin .append, args := #[s, x], argTypes := #[t, t] })
    (base : Nat) (e : TypeId) (i : TypeInfo) (z : Value) (size bytes : Nat) (ht : P.underlying t = some (.slice e)) (hi : P.info? e = some i) (hz : i.zero = some z)
    (hsize : i.size = size) (hby : i.bytes = bytes) (hzs : z.cells.size = size) (hsz : 0 < size)
    (v : Value) (n : Nat) (xs : List Value) (hs : act.eval s = v) (hown : w.ownsRow base e size v n xs)
    (ad : Addr) (m c : Nat) (news : List Value) (hx : act.eval x = .slice (some ad) m c) (hl : news.length = m * size) (hnews : ∀ j u, news[j]? = some u → w.cell? (ad.add j) = some u) (h1 : ∀ u ∈ news, u.oneCell' = true)
    (h63 : n + m ≤ maxLen) (hbytes : (n + m) * bytes ≤ 140737488355328) (hbase : base ≤ w.heap.size)
    (h : ∀ v' w', w'.ownsRow base e size v' (n + m) (xs ++ news) → Below base w w' → w.grownBy w' v.ownBlock → K (act.put o.dst v') w') :
    if Region.wanted o (yielded ops act.tmps) = true then Oper.wp P o act w K Q else E := by
  have hw : Region.wanted o (yielded ops act.tmps) = true := by simp [Region.wanted, hgd]
  rw [if_pos hw]
  exact wp_append_own w s x t ho base e i z size bytes ht hi hz hsize hby hzs hsz v n xs hs hown ad m c news hx hl hnews h1 h63 hbytes hbase (fun v' w' h2 h3 _ => h v' w' h2 ((Below.refl _ _).grown h3 hbase (own_base hown)) h3)

/-- the cells of entries -/
def entCells (l : List Ent) (us : List Value) : List Value := (l.zip us).flatMap fun p => [.int .i64 p.1.1, p.2]
theorem entCells_length (l : List Ent) (us : List Value) (h : us.length = l.length) : (entCells l us).length = l.length * 2 := by
  unfold entCells
  rw [List.length_flatMap]
  simp [List.map_const', h]
theorem entCells_get : ∀ (l : List Ent) (us : List Value) (i : Nat) (p : Ent) (v : Value), l[i]? = some p → us[i]? = some v → (entCells l us)[i * 2]? = some (.int .i64 p.1) ∧ (entCells l us)[i * 2 + 1]? = some v
  | [], us, i, p, v, h, k => by simp at h
  | q :: up, [], i, p, v, h, k => by simp at k
  | q :: up, u :: vs, 0, p, v, h, k => by simp at h k; subst h; subst k; simp [entCells]
  | q :: up, u :: vs, i + 1, p, v, h, k => by
    simp only [List.getElem?_cons_succ] at h k
    have := entCells_get up vs i p v h k
    simp only [entCells, List.zip_cons_cons, List.flatMap_cons, List.cons_append, List.nil_append] at this ⊢
    rw [show (i + 1) * 2 = i * 2 + 1 + 1 by omega, List.getElem?_cons_succ, List.getElem?_cons_succ, List.getElem?_cons_succ, List.getElem?_cons_succ]
    exact this
theorem entCells_push (l : List Ent) (vs : List Value) (h : vs.length = l.length) (x : Ent) (v : Value) : entCells (l ++ [x]) (vs ++ [v]) = entCells l vs ++ [.int .i64 x.1, v] := by
  unfold entCells
  rw [List.zip_append (by omega), List.flatMap_append]
  rfl

/-- a slice of entries of one's own, all in blocks from lo on -/
structure EntsOwn (w : World) (lo : Nat) (v : Value) (l : List Ent) : Prop where
  row : ∃ us : List Value, us.length = l.length ∧ w.ownsRow lo 100 2 v l.length (entCells l us) ∧ ∀ (i : Nat) (x : Ent), l[i]? = some x → ∃ u, us[i]? = some u ∧ w.ownsRow lo 5 1 u 96 (B8 x.2) ∧ IsBytes x.2 ∧ (0 ≤ x.1 ∧ x.1 < 65536)
theorem EntsOwn.nil (w : World) (lo : Nat) : EntsOwn w lo (.slice none 0 0) [] := ⟨[], rfl, World.ownsRow_nil _ _ _ _, fun i x h => by simp at h⟩
theorem EntsOwn.below {w w' : World} {lo : Nat} {v : Value} {l : List Ent} (h : EntsOwn w lo v l) {B : Nat} (k : Below B w w') (hB : w.heap.size ≤ B) : EntsOwn w' lo v l := by
  obtain ⟨us, h0, h1, h2⟩ := h.row
  have kx := Ext.of_below (k.mono hB) (fun _ => False)
  refine ⟨us, h0, kx.owns2 (fun _ _ => id) h1, fun i x hi => ?_⟩
  obtain ⟨u, h3, h4, r⟩ := h2 i x hi
  exact ⟨u, h3, kx.owns2 (fun _ _ => id) h4, r⟩
theorem EntsOwn.alloc {w : World} {lo : Nat} {v : Value} {l : List Ent} (h : EntsOwn w lo v l) (o : Obj) : EntsOwn (w.alloc o) lo v l :=
  h.below ((Below.refl _ _).alloc (Nat.le_refl _) o) (Nat.le_refl _)
theorem EntsOwn.mono {w : World} {lo lo' : Nat} {v : Value} {l : List Ent} (h : EntsOwn w lo v l) (hl : lo' ≤ lo) : EntsOwn w lo' v l := by
  obtain ⟨us, h0, h1, h2⟩ := h.row
  refine ⟨us, h0, owns_mono2 h1 hl, fun i x hi => ?_⟩
  obtain ⟨u, h3, h4, r⟩ := h2 i x hi
  exact ⟨u, h3, owns_mono h4 hl, r⟩
theorem EntsOwn.push {w w' : World} {lo : Nat} {v v' : Value} {l : List Ent} {us : List Value} (h0 : us.length = l.length) (h1 : w.ownsRow lo 100 2 v l.length (entCells l us))
    (h2 : ∀ (i : Nat) (x : Ent), l[i]? = some x → ∃ u, us[i]? = some u ∧ w.ownsRow lo 5 1 u 96 (B8 x.2) ∧ IsBytes x.2 ∧ (0 ≤ x.1 ∧ x.1 < 65536))
    {u : Value} {x : Ent} (hu : w.ownsRow lo 5 1 u 96 (B8 x.2)) (hz : IsBytes x.2) (hx : 0 ≤ x.1 ∧ x.1 < 65536)
    (ho : w'.ownsRow lo 100 2 v' (l.length + 1) (entCells l us ++ [.int .i64 x.1, u])) (hg : w.grownBy w' v.ownBlock) : EntsOwn w' lo v' (l ++ [x]) := by
  have far : ∀ (u : Value) (ys : List Int), w.ownsRow lo 5 1 u 96 (B8 ys) → w'.ownsRow lo 5 1 u 96 (B8 ys) := fun u ys hu =>
    (Ext.of_grown hg).owns (fun g hgu hf => owns_ne2 h1 hu (by decide) g hgu hf) hu
  refine ⟨us ++ [u], by simp [h0], by rw [List.length_append, entCells_push _ _ h0]; exact ho, fun i y hi => ?_⟩
  by_cases e : i < l.length
  · rw [List.getElem?_append_left e] at hi
    obtain ⟨x, k1, k2, k3⟩ := h2 i y hi
    exact ⟨x, by rw [List.getElem?_append_left (by omega)]; exact k1, far x _ k2, k3⟩
  · have e2 : i = l.length := by
      have := (List.getElem?_eq_some_iff.1 hi).1
      simp at this
      omega
    subst e2
    simp at hi
    subst hi
    exact ⟨u, by rw [List.getElem?_append_right (by omega), h0]; simp, far u _ hu, hz, hx⟩
/-- what is one's own can be read -/
theorem EntsOwn.out {w : World} {lo : Nat} {v : Value} {l : List Ent} (h : EntsOwn w lo v l) {N : Nat → Prop} (hN : ∀ q, N q → q < w.heap.size → q < lo) : ∃ a c, v = .slice a l.length c ∧ EntsAt w N a l.length l ∧ l.length ≤ c := by
  obtain ⟨us, h0, h1, h2⟩ := h.row
  rcases h1.2 with ⟨rfl, hn⟩ | ⟨g, cap, cur, rfl, hg, hh, hcap, hm, hsz, htake⟩
  · have : l = [] := List.eq_nil_of_length_eq_zero hn
    subst this
    exact ⟨none, 0, rfl, EntsAt.nil _ _, Nat.le_refl _⟩
  · have hlt := lt_of_blk hh
    refine ⟨some ⟨g, 0, none⟩, cap, rfl, ⟨rfl, fun _ => rfl, fun i x hi => ?_, fun i x hi => ?_, fun x hx => ?_, fun _ hf => ?_⟩, hcap⟩
    · have hi2 : i < l.length := (List.getElem?_eq_some_iff.1 hi).1
      obtain ⟨u, k1, -⟩ := h2 i x hi
      have e := (entCells_get l us i x u hi k1).1
      rw [← htake, List.getElem?_take, if_pos (by omega), Array.getElem?_toList] at e
      show w.cell? ⟨g, 0 + i * 2, none⟩ = _
      rw [Nat.zero_add]
      exact blk_cell hh e
    · have hi2 : i < l.length := (List.getElem?_eq_some_iff.1 hi).1
      obtain ⟨u, k1, k2, k3, -⟩ := h2 i x hi
      have e := (entCells_get l us i x u hi k1).2
      rw [← htake, List.getElem?_take, if_pos (by omega), Array.getElem?_toList] at e
      obtain ⟨a, c, rfl, m1, m2, m3, m4, m5, m6⟩ := row_of_owns k2
      rw [B8_length] at m1
      refine ⟨a, c, ?_, m4, fun ha => absurd (m6 ha) (by decide), k3, fun _ hf => ?_⟩
      · show w.cell? ⟨g, 0 + i * 2 + 1, none⟩ = _
        rw [Nat.zero_add, m1]
        exact blk_cell hh e
      · have h7 := m5 (by decide)
        have := hN _ hf h7.2
        omega
    · obtain ⟨i, hi⟩ := List.getElem?_of_mem hx
      obtain ⟨u, k1, k2, k3, k4⟩ := h2 i x hi
      have := k2.1
      rw [B8_length] at this
      omega
    · have := hN g hf hlt
      omega
theorem EntsOwn.ok {w : World} {lo : Nat} {v : Value} {l : List Ent} (h : EntsOwn w lo v l) : ∀ x ∈ l, (0 ≤ x.1 ∧ x.1 < 65536) ∧ x.2.length = 96 := by
  obtain ⟨us, h0, h1, h2⟩ := h.row
  intro x hx
  obtain ⟨i, hi⟩ := List.getElem?_of_mem hx
  obtain ⟨u, k1, k2, k3, k4⟩ := h2 i x hi
  have := k2.1
  rw [B8_length] at this
  exact ⟨k4, by omega⟩

end Go.Proofs.YtleoelhhndeheaaGreat

/- package ledger: entries -/
open Go Go.RowKit
namespace Go.Proofs.YtleoelhhndeheaaGreat

def slLen : Value → Nat
  | .slice _ n _ => n
  | _ => 0
theorem cut_drop (b : List Int) (i a n : Nat) : cut (b.drop i) a n = cut b (i + a) n := by unfold cut; rw [List.drop_drop]
theorem Row.cut0 {w : World} {b : Nat} {zs : List Int} (h : Row w (some ⟨b, 0, none⟩) (B8 zs)) (i n : Nat) : Row w (some ⟨b, i, none⟩) (B8 (Go.Proofs.YtleoelhhndeheaaGreat.cut zs i n)) := by
  have := h.cut i n
  rw [Nat.zero_add] at this
  exact this
theorem joinB_succ {ls : List (List Int)} {k : Nat} {zs : List Int} (h : ls[k]? = some zs) : joinB (ls.take (k + 1)) = joinB (ls.take k) ++ cut zs 12 64 := by
  unfold joinB
  rw [List.take_add_one, h, List.flatMap_append]
  simp
theorem joinB_bytes {ls : List (List Int)} (h : ∀ zs ∈ ls, IsBytes zs) : IsBytes (joinB ls) := fun n hn => by
  obtain ⟨z, hz, hn⟩ := List.mem_flatMap.1 hn
  exact cut_bytes (h z hz) _ _ _ hn
theorem joinB_length : ∀ {ls : List (List Int)}, (∀ zs ∈ ls, zs.length = 96) → (joinB ls).length = 64 * ls.length
  | [], _ => rfl
  | z :: r, h => by
    have := joinB_length (ls := r) (fun x hx => h x (List.mem_cons_of_mem _ hx))
    have hz := h z (List.mem_cons_self ..)
    show (cut z 12 64 ++ joinB r).length = _
    rw [List.length_append, this, cut_length (by omega), List.length_cons]
    omega
theorem LvRow.bytes {w : World} {N : Nat → Prop} {a : Option Addr} {n : Nat} {ls : List (List Int)} (h : LvRow w N a n ls) : (∀ zs ∈ ls, IsBytes zs) ∧ ∀ zs ∈ ls, zs.length = 96 := by
  refine ⟨fun z hz => ?_, fun z hz => ?_⟩ <;>
  · obtain ⟨i, hi⟩ := List.getElem?_of_mem hz
    obtain ⟨b, c, -, -, h3, h4, -⟩ := h.cell i z hi
    first | exact h3 | exact h4
theorem Row.form {w : World} {b : Addr} {vs : List Value} (h : Row w (some b) vs) (hl : 0 < vs.length) : ∃ bb bo, b = ⟨bb, bo, none⟩ := by
  have := h.nn hl
  rw [Option.some.injEq] at this
  exact ⟨_, _, this⟩
theorem iEnt : (Tryz.prog.info? 100).map (fun i => (i.zero, i.size, i.bytes)) = some (some (.agg #[.int .i64 0, .slice none 0 0]), 2, 32) := by kernel_rfl

set_option maxRecDepth 100000 in
set_option maxHeartbeats 8000000 in
theorem entries_any (a : Option Addr) (n cap : Nat) (ls : List (List Int)) (N : Nat → Prop) (w : World) (h : LvRow w N a n ls) (h0 : 0 < n) (hn : n ≤ 100000) :
    Calls Tryz.prog 115 #[.slice a n cap] w fun e w' => ∃ v, e = .returned v ∧ EntsOwn w' w.heap.size v (entriesL ls) ∧ Below w.heap.size w w' := by
  obtain ⟨i0, hi, hz0, hz1, hz2⟩ := info_parts iB
  obtain ⟨ie, hie, hez0, hez1, hez2⟩ := info_parts iEnt
  have hix := fun k (hk : k < n) => h.idx (cap := cap) hk
  have HH := hid h
  have HL := hid h.len
  obtain ⟨hby, h96⟩ := h.bytes
  have HBY := hid (joinB_bytes hby)
  have HJL := hid (show (joinB ls).length = 64 * n by rw [joinB_length h96, h.len])
  have H96 := hid h96
  clear h hby h96
  go_enter Tryz.func115, Tryz.ntmps115
  go_wp2_with fail
  go_loopw [3, 10] (fun v i wr => ∃ (k : Nat) (o : Value), o = v ∧ i = .int .i64 k ∧ k ≤ n ∧ wr.ownsRow w.heap.size 5 1 o (64 * k) (B8 (joinB (ls.take k))) ∧ Below w.heap.size w wr) (fun _ i _ => n - (intOf i).toNat)
  case atStart => exact ⟨0, _, rfl, rfl, Nat.zero_le _, World.ownsRow_nil _ _ _ _, Below.refl _ _⟩
  case round =>
    obtain ⟨k, vb, rfl, rfl, hk, OB, BR⟩ := hrel
    have szr := BR.size
    by_cases hlt : k < n
    · have hixk := hix k hlt
      obtain ⟨zs, hx⟩ : ∃ x, ls[k]? = some x := ⟨_, List.getElem?_eq_getElem (by rw [HL.out]; exact hlt)⟩
      obtain ⟨b, c, e1, rz, hz96, hzb, hc96, -⟩ := (HH.out.below BR (Nat.le_refl _)).cell k _ hx
      obtain ⟨bb, bo, rfl⟩ := rz.form (by rw [B8_length, hz96]; decide)
      have HSU := hid (joinB_succ hx)
      have rc := rz.cut 12 64
      have hcl := cut_length (b := zs) (i := 12) (n := 64) (by omega)
      have HCL := hid (show (B8 (cut zs 12 64)).length = 64 by rw [B8_length]; exact hcl)
      have q1 : (76 : Int) ≤ (c : Int) := by omega
      have q2 : ¬ (c = 12) := by omega
      clear hx rz hcl hz96
      go_wp2_with (at_builtin; refine wpList_append_row (P := Tryz.prog) rfl _ _ 27 rfl w.heap.size 5 i0 (.int .u8 0) Tryz.underlying27 hi hz0 hz1 (by omega) rfl vb (64 * k) _ rfl OB (some ⟨bb, bo + 12, none⟩) 64 (c - 12) (B8 (cut zs 12 64)) rfl rc HCL.out (fun h => by cases h) (B8_one _) ?c4 ?c5 ?_)
      case c4 => omega
      case c5 => exact szr
      intro v' w4 o4 B4 _
      go_wp2_with fail
      go_roundw
      case measure => simp [intOf]; omega
      case rel =>
        refine ⟨k + 1, v', rfl, by go_num, by omega, ?_, BR.trans B4⟩
        rw [HSU.out, B8, List.map_append, show 64 * (k + 1) = 64 * k + 64 by omega]
        exact o4
    · obtain rfl : n = k := by omega
      have OB2 := OB
      rw [show ls.take n = ls by rw [List.take_of_length_le (by rw [HL.out]; exact Nat.le_refl _)]] at OB2
      obtain ⟨g, cb, hvb, hcb⟩ := owns_some OB2 (by omega)
      subst hvb
      obtain ⟨J, hJ⟩ : ∃ J, joinB ls = J := ⟨_, rfl⟩
      rw [hJ] at OB2 HBY HJL
      have rJ : Row wr (some ⟨g, 0, none⟩) (B8 J) := by
        obtain ⟨_, _, e8, -, -, -, hrw, -, -⟩ := row_of_owns OB2
        cases e8
        exact hrw
      have HJ := hid hJ
      obtain ⟨wo, rfl⟩ : ∃ wo : World, wo = wr := ⟨_, rfl⟩
      have HEN := hid (show entriesL ls = parseE (num (cut J 0 2)).toNat (J.drop 2) by unfold entriesL; rw [HJ.out])
      obtain ⟨mm, hmm, hmm2⟩ : ∃ mm : Nat, num (cut J 0 2) = (mm : Int) ∧ mm < 65536 := by
        have := num_bd2 (cut_bytes HBY.out 0 2) (by rw [cut_length (by rw [HJL.out]; omega)]; decide)
        exact ⟨(num (cut J 0 2)).toNat, by omega, by omega⟩
      have NB := lnumber_any (some ⟨g, 0, none⟩) 2 cb (cut J 0 2) wo (rJ.cut0 0 2) (cut_length (by rw [HJL.out]; omega)) (by decide) (cut_bytes HBY.out 0 2)
      rw [hmm] at NB
      have HEN := hid (show entriesL ls = parseE mm (J.drop 2) by rw [HEN.out, hmm]; rfl)
      have q1 : (2 : Int) ≤ (cb : Int) := by omega
      have q2 : ¬ (cb = 2) := by omega
      have q3 : (2 : Int) ≤ ((64 * n : Nat) : Int) := by omega
      have q4 : (2 : Int) ≤ 64 * (n : Int) := by omega
      obtain ⟨L0, hL0⟩ : ∃ L0 : Nat, 64 * n - 2 = L0 := ⟨_, rfl⟩
      obtain ⟨C0, hC0⟩ : ∃ C0 : Nat, cb - 2 = C0 := ⟨_, rfl⟩
      clear hJ hmm OB OB2
      go_wp2_with fail
      refine NB.mono ?_
      rintro e w2 ⟨rfl, rfl⟩
      clear NB
      go_wp2_with fail
      have HL0 : L0 + 2 = 64 * n := by omega
      have HC0 : C0 + 2 = cb := by omega
      clear hL0 hC0
      go_loopw [3, 7] (fun b o wx => ∃ (j L C : Nat) (ad : Addr) (acc : List Ent) (ov : Value), ov = o ∧ b = .slice (some ad) L C ∧ L + 2 + 98 * j = 64 * n ∧ C + 2 + 98 * j = cb ∧ (0 < L → ad = ⟨g, 2 + 98 * j, none⟩) ∧ Hid (acc.length = j) ∧ j ≤ mm ∧ Hid (EntsOwn wx wo.heap.size ov acc) ∧ Hid (parseE mm (J.drop 2) = acc ++ parseE (mm - j) (J.drop (2 + 98 * j))) ∧ Below wo.heap.size wo wx) (fun b _ _ => slLen b)
      case atStart => exact ⟨0, L0, C0, _, [], _, rfl, rfl, by omega, by omega, fun _ => rfl, hid rfl, Nat.zero_le _, hid (EntsOwn.nil _ _), hid (by simp), Below.refl _ _⟩
      case round =>
        obtain ⟨j, L, C, ad, acc, ov, rfl, rfl, hL, hC, had, HA, hj, EO, HP, BX⟩ := hrel
        have szx := BX.size
        obtain ⟨oa, oc, hov⟩ : ∃ oa oc, ov = .slice oa j oc := by
          obtain ⟨us, u0, u1, u2⟩ := EO.out.row
          rw [HA.out] at u1
          exact owns_slice u1
        subst hov
        by_cases hgo : j < mm ∧ 98 ≤ L
        · obtain ⟨h1, h2⟩ := hgo
          obtain rfl := had (by omega)
          have g2 : (98 : Int) ≤ (L : Int) := by omega
          have g3 : (2 : Int) ≤ (C : Int) := by omega
          have g4 : (98 : Int) ≤ (C : Int) := by omega
          have g5 : ¬ (C = 2) := by omega
          have rx := rJ.below BX (Nat.le_refl _)
          have r1 := rx.cut0 (2 + 98 * j) 2
          have r2 := rx.cut0 (2 + 98 * j + 2) 96
          have l1 := cut_length (b := J) (i := 2 + 98 * j) (n := 2) (by rw [HJL.out]; omega)
          have l2 := cut_length (b := J) (i := 2 + 98 * j + 2) (n := 96) (by rw [HJL.out]; omega)
          obtain ⟨x1, hx1, hx1b⟩ : ∃ x1 : Int, num (cut J (2 + 98 * j) 2) = x1 ∧ 0 ≤ x1 ∧ x1 < 65536 := ⟨_, rfl, num_bd2 (cut_bytes HBY.out _ _) (by rw [l1]; decide)⟩
          have HX1 := hid hx1
          have HC1 := hid (cut_bytes HBY.out (2 + 98 * j) 2)
          have HC2 := hid (cut_bytes HBY.out (2 + 98 * j + 2) 96)
          have HL1 := hid l1
          have HL2 := hid l2
          have HPS := hid (show parseE (mm - j) (J.drop (2 + 98 * j)) = (x1, cut J (2 + 98 * j + 2) 96) :: parseE (mm - (j + 1)) (J.drop (2 + 98 * (j + 1))) by
            obtain ⟨q, hq⟩ : ∃ q, mm - j = q + 1 := ⟨mm - j - 1, by omega⟩
            rw [hq, show mm - (j + 1) = q by omega]
            show (if 98 ≤ (J.drop (2 + 98 * j)).length then _ else _) = _
            rw [if_pos (by rw [List.length_drop, HJL.out]; omega), cut_drop, cut_drop, Nat.add_zero, hx1, List.drop_drop, show 2 + 98 * j + 98 = 2 + 98 * (j + 1) by omega])
          clear had l1 l2 hx1 rx
          have SB : ∀ W, Below wo.heap.size wo W → Below wo.heap.size wo W ∧ True := fun W h => ⟨h, trivial⟩
          go_wp2_with fail
          refine wp_region_held_drew (S := fun w' => Below wo.heap.size wo w' ∧ True) (by kernel_rfl) (SB _ ((BX).drew)) (fun hHeld => ?_)
          refine wpAnyH_take (i := 0) (v := ?v1) (by simp only [List.getElem?_toArray, List.getElem?_cons_zero]; rfl) (by kernel_rfl) (by kernel_rfl) (by kernel_rfl) (by exact fun _ _ _ h => h) (Or.inl ⟨by rfl, ?h1⟩) (by assumption) ?r1
          case h1 => (intro w hSw; (try dsimp only at hSw); go_simp; try with_reducible rfl)
          try simp only [Act.put, List.setIfInBounds_toArray, List.set_cons_zero, List.set_cons_succ]
          refine wpAnyH_take (i := 1) (v := ?v2) (by simp only [List.getElem?_toArray, List.getElem?_cons_zero, List.getElem?_cons_succ]; rfl) (by kernel_rfl) (by kernel_rfl) (by kernel_rfl) (by exact fun _ _ _ h => h) (Or.inl ⟨by rfl, ?h2⟩) (by assumption) ?r2
          case h2 => (intro w hSw; (try dsimp only at hSw); go_simp; try with_reducible rfl)
          try simp only [Act.put, List.setIfInBounds_toArray, List.set_cons_zero, List.set_cons_succ]
          refine wpAnyH_take (i := 2) (v := ?v3) (by simp only [List.getElem?_toArray, List.getElem?_cons_zero, List.getElem?_cons_succ]; rfl) (by kernel_rfl) (by kernel_rfl) (by kernel_rfl) (by exact fun _ _ _ h => h) (Or.inl ⟨by rfl, ?h3⟩) (by assumption) ?r3
          case h3 => (intro w hSw; (try dsimp only at hSw); go_simp; try with_reducible rfl)
          try simp only [Act.put, List.setIfInBounds_toArray, List.set_cons_zero, List.set_cons_succ]
          refine wpAnyH_take (i := 4) (v := ?v4) (by simp only [List.getElem?_toArray, List.getElem?_cons_zero, List.getElem?_cons_succ]; rfl) (by kernel_rfl) (by kernel_rfl) (by kernel_rfl) (by exact fun _ _ _ h => h) (Or.inl ⟨by rfl, ?h4⟩) (by assumption) ?r4
          case h4 => (intro w hSw; (try dsimp only at hSw); go_simp; try with_reducible rfl)
          try simp only [Act.put, List.setIfInBounds_toArray, List.set_cons_zero, List.set_cons_succ]
          refine wpAnyH_take (i := 5) (v := ?v5) (by simp only [List.getElem?_toArray, List.getElem?_cons_zero, List.getElem?_cons_succ]; rfl) (by kernel_rfl) (by kernel_rfl) (by kernel_rfl) (by exact fun _ _ _ h => h) (Or.inl ⟨by rfl, ?h5⟩) (by assumption) ?r5
          case h5 => (intro w hSw; (try dsimp only at hSw); go_simp; try with_reducible rfl)
          try simp only [Act.put, List.setIfInBounds_toArray, List.set_cons_zero, List.set_cons_succ]
          refine wpAnyH_ready (rs := [3]) (by kernel_rfl) (by simp) ?_
          refine (AllReadyH.cons (by simp only [List.getElem?_toArray, List.getElem?_cons_zero, List.getElem?_cons_succ]; rfl) (fun K hK => ?_) AllReadyH.nil)
          go_simp
          go_at_call 99
          have NBq := lnumber_any (some ⟨g, 2 + 98 * j, none⟩) 2 C (cut J (2 + 98 * j) 2) _ ((Row.keep r1 (w' := wr.drew) (fun _ => rfl))) HL1.out (by decide) HC1.out
          rw [HX1.out] at NBq
          refine NBq.mono ?_
          rintro e wq6 ⟨rfl, rfl⟩
          clear NBq
          refine hK.out _ _ (SB _ (BX).drew) (fun hH7 => ?_)
          clear hK
          try simp only [Act.put, List.setIfInBounds_toArray, List.set_cons_zero, List.set_cons_succ]
          refine wpAnyH_ready (rs := [6]) (by kernel_rfl) (by simp) ?_
          refine (AllReadyH.cons (by simp only [List.getElem?_toArray, List.getElem?_cons_zero, List.getElem?_cons_succ]; rfl) (fun K hK => ?_) AllReadyH.nil)
          go_simp
          go_at_call 43
          refine (cloneB_any (some ⟨g, 2 + 98 * j + 2, none⟩) 96 (C - 2) (cut J (2 + 98 * j + 2) 96) _ ((Row.keep r2 (w' := wr.drew) (fun _ => rfl))) HL2.out (fun h => by cases h) (by decide)).mono ?_
          rintro e wq8 ⟨v8, rfl, o8, C8⟩
          obtain ⟨b8, c8, e88, -⟩ := own96 o8
          subst e88
          have BB8 := ((BX).drew).trans (C8.mono (Below.size ((BX).drew)))
          refine hK.out _ _ (SB _ BB8) (fun hH9 => ?_)
          clear hK
          try simp only [Act.put, List.setIfInBounds_toArray, List.set_cons_zero, List.set_cons_succ]
          refine wpAnyH_take (i := 7) (v := ?v10) (by simp only [List.getElem?_toArray, List.getElem?_cons_zero, List.getElem?_cons_succ]; rfl) (by kernel_rfl) (by kernel_rfl) (by kernel_rfl) (by exact fun _ _ _ h => h) (Or.inl ⟨by rfl, ?h10⟩) (by assumption) ?r10
          case h10 => (intro w hSw; (try dsimp only at hSw); go_simp; try with_reducible rfl)
          try simp only [Act.put, List.setIfInBounds_toArray, List.set_cons_zero, List.set_cons_succ]
          refine wpAnyH_ready (rs := [8]) (by kernel_rfl) (by simp) ?_
          refine (AllReadyH.cons (by simp only [List.getElem?_toArray, List.getElem?_cons_zero, List.getElem?_cons_succ]; rfl) (fun K hK => ?_) AllReadyH.nil)
          go_simp
          have BB11 := (BB8).alloc (Below.size (BB8)) (.cells #[.int .i64 x1, .slice (some b8) 96 c8] 100)
          refine hK.out _ _ (SB _ BB11) (fun hH12 => ?_)
          clear hK
          try simp only [Act.put, List.setIfInBounds_toArray, List.set_cons_zero, List.set_cons_succ]
          refine wpAnyH_ready (rs := [9]) (by kernel_rfl) (by simp) ?_
          refine (AllReadyH.cons (by simp only [List.getElem?_toArray, List.getElem?_cons_zero, List.getElem?_cons_succ]; rfl) (fun K hK => ?_) AllReadyH.nil)
          obtain ⟨us, u0, u1, u2⟩ := (((((EO.out).below (B := wr.heap.size) (Below.refl _ _).drew (Nat.le_refl _))).below C8 (Nat.le_refl _)).alloc (.cells #[.int .i64 x1, .slice (some b8) 96 c8] 100)).row
          have u1' := u1
          rw [HA.out] at u1'
          refine step_append_gen (P := Tryz.prog) (by rfl) _ _ 77 (by rfl) wo.heap.size 100 ie (.agg #[.int .i64 0, .slice none 0 0]) 2 32 Tryz.underlying77 hie hez0 hez1 hez2 rfl (by decide) (.slice oa j oc) j (entCells acc us) (by rfl) u1' ⟨wq8.heap.size, 0, none⟩ 1 1 [.int .i64 x1, .slice (some b8) 96 c8] (by rfl) rfl (row_at wq8 #[.int .i64 x1, .slice (some b8) 96 c8] 100 (by simp)).news (fun x hx => by simp at hx; rcases hx with rfl | rfl <;> rfl) (by simp only [maxLen]; omega) (by omega) (Below.size (BB11)) ?_
          intro v13 w13 O13 C13 G13
          have BB13 := (BB11).trans C13
          have LP13 : EntsOwn w13 wo.heap.size v13 (acc ++ [(x1, cut J (2 + 98 * j + 2) 96)]) := EntsOwn.push u0 u1 u2 (Below.owns (B := _) ((Below.refl _ _).alloc (Nat.le_refl _) _) (Nat.le_refl _) (owns_mono o8 (Below.size ((BX).drew)))) HC2.out hx1b (by rw [HA.out]; exact O13) G13
          clear u1 u1' u2 u0 O13 G13
          refine hK.out _ _ (SB _ BB13) (fun hH14 => ?_)
          clear hK
          try simp only [Act.put, List.setIfInBounds_toArray, List.set_cons_zero, List.set_cons_succ]
          refine wpAnyH_take (i := 10) (v := ?v15) (by simp only [List.getElem?_toArray, List.getElem?_cons_zero, List.getElem?_cons_succ]; rfl) (by kernel_rfl) (by kernel_rfl) (by kernel_rfl) (by exact fun _ _ _ h => h) (Or.inl ⟨by rfl, ?h15⟩) (by assumption) ?r15
          case h15 => (intro w hSw; (try dsimp only at hSw); go_simp; try with_reducible rfl)
          try simp only [Act.put, List.setIfInBounds_toArray, List.set_cons_zero, List.set_cons_succ]
          refine wpAnyH_done (by kernel_rfl) ?_ _
          have LPH := hid LP13
          clear LP13
          have HA1 := hid (show (acc ++ [(x1, cut J (2 + 98 * j + 2) 96)]).length = j + 1 by rw [List.length_append, HA.out]; rfl)
          have HP1 := hid (show parseE mm (J.drop 2) = (acc ++ [(x1, cut J (2 + 98 * j + 2) 96)]) ++ parseE (mm - (j + 1)) (J.drop (2 + 98 * (j + 1))) by rw [HP.out, HPS.out, List.append_assoc]; rfl)
          by_cases hC98 : C = 98
          · go_wp2_with fail
            go_roundw
            case measure => simp [slLen]; omega
            case rel => exact ⟨j + 1, L - 98, C - 98, _, _, _, rfl, by first | rfl | (subst hC98; rfl), by omega, by omega, (fun h => by omega), HA1, by omega, LPH, HP1, BB13⟩
          · go_wp2_with fail
            go_roundw
            case measure => simp [slLen]; omega
            case rel => exact ⟨j + 1, L - 98, C - 98, _, _, _, rfl, rfl, by omega, by omega, (fun h => by first | rfl | (rw [show 2 + 98 * (j + 1) = 2 + 98 * j + 98 by omega])), HA1, by omega, LPH, HP1, BB13⟩
        · have hend : parseE (mm - j) (J.drop (2 + 98 * j)) = [] := by
            by_cases h1 : j < mm
            · obtain ⟨q, hq⟩ : ∃ q, mm - j = q + 1 := ⟨mm - j - 1, by omega⟩
              rw [hq]
              show (if 98 ≤ (J.drop (2 + 98 * j)).length then _ else _) = _
              rw [if_neg (by rw [List.length_drop, HJL.out]; omega)]
            · rw [show mm - j = 0 by omega]; rfl
          have HE := hid (show entriesL ls = acc by rw [HEN.out, HP.out, hend, List.append_nil])
          have RES := hid (EO.out.mono szr)
          have BF := hid (BR.trans (BX.mono szr))
          clear hend EO HP
          by_cases h1 : j < mm
          · have g2 : ¬ (98 : Int) ≤ (L : Int) := by omega
            go_wp2_with fail
            go_ret
            exact ⟨_, rfl, by rw [HE.out]; exact RES.out, BF.out⟩
          · go_wp2_with fail
            go_ret
            exact ⟨_, rfl, by rw [HE.out]; exact RES.out, BF.out⟩

end Go.Proofs.YtleoelhhndeheaaGreat
