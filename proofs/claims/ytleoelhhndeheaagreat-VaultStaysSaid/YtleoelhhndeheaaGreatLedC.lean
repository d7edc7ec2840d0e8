import Derived.Test.YtleoelhhndeheaaGreatProg
import Derived.Test.YtleoelhhndeheaaGreatRow
import Derived.Maps.OwnSet
import Derived.WalkArith
import Derived.Test.YtleoelhhndeheaaGreatLvs
/- maps with int keys, said plainly: which value stands at which key -/
open Go Go.RowKit
open Go.Maps (Keyed has)
namespace Go.Proofs.YtleoelhhndeheaaGreat

/-- an element reads as itself -/
def rawE (v : Value) : Option (DataW Value × List MemPlace) := some (.held v, [])
abbrev ky (x : Int) : Lit := .int .i64 x
theorem iK : Keyed Tryz.prog 3 := Maps.int_keyed Tryz.underlying3
theorem kyOf {x : Int} (h : -9223372036854775808 ≤ x ∧ x ≤ 9223372036854775807) : keyOf Tryz.prog 3 (.int .i64 x) = some (ky x) :=
  Maps.keyOf_int_mk Tryz.underlying3 (WalkArith.wf_i64 h)

/-- block b is a map of at most n keys, at which stand the values of T -/
structure IMap (w : World) (b n : Nat) (T : Int → Option Value) : Prop where
  out : ∃ D : DataW Value, w.ownsMap Tryz.prog 3 rawE b n D ∧ (∀ x, has D (ky x) = (T x).isSome) ∧ (∀ x v, T x = some v → D.atKey (ky x) .nil = .held v)

theorem IMap.lt {w : World} {b n : Nat} {T : Int → Option Value} (h : IMap w b n T) : b < w.heap.size := by
  obtain ⟨D, h, _⟩ := h.out
  exact h.lt
theorem IMap.made (w : World) : IMap (w.alloc (.map #[] 0)) w.heap.size 0 (fun _ => none) :=
  ⟨.map [], World.ownsMap_made w Tryz.prog 3 rawE, fun x => rfl, fun x v h => by cases h⟩
theorem IMap.keep {w w' : World} {b n : Nat} {T : Int → Option Value} (h : IMap w b n T) (hb : w'.heap[b]? = w.heap[b]?) : IMap w' b n T := by
  obtain ⟨D, ⟨es, c, h1, h2⟩, h3, h4⟩ := h.out
  exact ⟨D, ⟨es, c, hb.trans h1, h2⟩, h3, h4⟩
theorem IMap.ext {w w' : World} {b n : Nat} {T : Int → Option Value} (h : IMap w b n T) {F : Nat → Prop} (k : Ext F w w') (hF : ¬ F b) : IMap w' b n T :=
  h.keep (k.block b h.lt hF)
theorem IMap.below {w w' : World} {b n : Nat} {T : Int → Option Value} (h : IMap w b n T) {B : Nat} (k : Below B w w') (hB : w.heap.size ≤ B) : IMap w' b n T :=
  h.keep (k.block b (Nat.lt_of_lt_of_le h.lt hB))
theorem IMap.congr {w : World} {b n : Nat} {T T' : Int → Option Value} (h : IMap w b n T) (e : ∀ x, T x = T' x) : IMap w b n T' := by
  have : T = T' := funext e
  exact this ▸ h
theorem IMap.blk {w : World} {b n : Nat} {T : Int → Option Value} (h : IMap w b n T) : ∃ es c, w.heap[b]? = some (.map es c) := by
  obtain ⟨D, ⟨es, c, h1, _⟩, _⟩ := h.out
  exact ⟨es, c, h1⟩

/-- the zero of the elements -/
theorem zB (w : World) : (zeroValue 4).run Tryz.prog w = .ok (.bool false) w := by kernel_rfl

theorem atKey_any {D : DataW Value} {x : Int} {z z' : DataW Value} (h : has D (ky x) = true) : D.atKey (ky x) z = D.atKey (ky x) z' := by
  cases D with
  | map es =>
    have h : es.any (fun p => p.1.sameKey (ky x)) = true := h
    unfold DataW.atKey
    simp only
    cases hf : es.find? (fun p => p.1.sameKey (ky x)) with
    | some p => rfl
    | none =>
      rw [List.find?_eq_none] at hf
      obtain ⟨p, hp, hq⟩ := List.any_eq_true.1 h
      exact absurd hq (hf p hp)
  | _ => cases h

/-- 'v, ok := m[k]' -/
theorem IMap.look_ok {w : World} {b n : Nat} {T : Int → Option Value} (h : IMap w b n T) {t e : TypeId} (ht : Tryz.prog.underlying t = some (.map 3 e)) {z : Value} (hz : (zeroValue e).run Tryz.prog w = .ok z w) {x : Int} (hx : -9223372036854775808 ≤ x ∧ x ≤ 9223372036854775807) :
    (Instr.lookup t (.map (some b)) (.int .i64 x) true).run Tryz.prog w = .ok (.tuple #[(T x).getD z, .bool (T x).isSome]) w := by
  obtain ⟨D, h1, h2, h3⟩ := h.out
  obtain ⟨v, ps, hrun, hv⟩ := h1.look_ok iK ht hz (show rawE z = some (.held z, []) from rfl) (kyOf hx)
  rw [hrun, h2 x]
  cases hT : T x with
  | none =>
    have hh : has D (ky x) = false := by rw [h2, hT]; rfl
    rw [Maps.atKey_of_not_has hh] at hv
    simp only [rawE, Option.some.injEq, Prod.mk.injEq, DataW.held.injEq] at hv
    rw [hv.1]; rfl
  | some u =>
    have hh : has D (ky x) = true := by rw [h2, hT]; rfl
    rw [atKey_any hh (z' := .nil), h3 x u hT] at hv
    simp only [rawE, Option.some.injEq, Prod.mk.injEq, DataW.held.injEq] at hv
    rw [hv.1]; rfl
/-- 'm[k]' -/
theorem IMap.look {w : World} {b n : Nat} {T : Int → Option Value} (h : IMap w b n T) {t e : TypeId} (ht : Tryz.prog.underlying t = some (.map 3 e)) {z : Value} (hz : (zeroValue e).run Tryz.prog w = .ok z w) {x : Int} (hx : -9223372036854775808 ≤ x ∧ x ≤ 9223372036854775807) :
    (Instr.lookup t (.map (some b)) (.int .i64 x) false).run Tryz.prog w = .ok ((T x).getD z) w := by
  obtain ⟨D, h1, h2, h3⟩ := h.out
  obtain ⟨v, ps, hrun, hv⟩ := h1.lookup iK ht hz (show rawE z = some (.held z, []) from rfl) (kyOf hx)
  rw [hrun]
  cases hT : T x with
  | none =>
    have hh : has D (ky x) = false := by rw [h2, hT]; rfl
    rw [Maps.atKey_of_not_has hh] at hv
    simp only [rawE, Option.some.injEq, Prod.mk.injEq, DataW.held.injEq] at hv
    rw [hv.1]; rfl
  | some u =>
    have hh : has D (ky x) = true := by rw [h2, hT]; rfl
    rw [atKey_any hh (z' := .nil), h3 x u hT] at hv
    simp only [rawE, Option.some.injEq, Prod.mk.injEq, DataW.held.injEq] at hv
    rw [hv.1]; rfl

theorem ky_ne {x y : Int} (h : x ≠ y) : ky x ≠ ky y := fun e => h (by simpa [ky] using e)
theorem isKey_ky {x : Int} (hx : -9223372036854775808 ≤ x ∧ x ≤ 9223372036854775807) : Go.WideAt.IsKeyLit (ky x) := iK.key (kyOf hx)
/-- 'm[k] = v' -/
theorem IMap.store {w : World} {b n : Nat} {T : Int → Option Value} (h : IMap w b n T) {t e : TypeId} (ht : Tryz.prog.underlying t = some (.map 3 e)) (hn : n < maxLen) {x : Int} (hx : -9223372036854775808 ≤ x ∧ x ≤ 9223372036854775807) (v : Value) :
    ∃ w', (Instr.mapUpdate t (.map (some b)) (.int .i64 x) v).run Tryz.prog w = .ok () w' ∧ IMap w' b (n + 1) (fun k => if k = x then some v else T k) ∧ w.grownBy w' (some b) := by
  obtain ⟨D, h1, h2, h3⟩ := h.out
  obtain ⟨w', hrun, r1, r2⟩ := h1.update iK ht hn (kyOf hx) (show rawE v = some (.held v, []) from rfl)
  have hD := h1.isMap
  refine ⟨w', hrun, ⟨_, r1, fun k => ?_, fun k u hk => ?_⟩, r2⟩
  · by_cases e : k = x
    · subst e
      rw [if_pos rfl, Maps.has_put_same hD (isKey_ky hx)]; rfl
    · rw [if_neg e, Maps.has_put_other (ky_ne e), h2]
  · by_cases e : k = x
    · subst e
      rw [if_pos rfl] at hk
      cases hk
      rw [Maps.atKey_put_same hD (isKey_ky hx)]
    · rw [if_neg e] at hk
      rw [Maps.atKey_put_other (ky_ne e)]
      exact h3 k u hk

theorem wpList_mapUpdate_im {P : Program} (hP : P = Tryz.prog) (w : World) {ops : Array Oper} {rest : List Oper} {o : Oper} {a : Act} {Q : Exit → Act → World → Prop}
    (hg : o.guard = none) (m x v : Operand) (t : TypeId) (hop : o.op = Op.mapUpdate t m x v) (e : TypeId) (ht : Tryz.prog.underlying t = some (.map 3 e)) (b n : Nat) (T : Int → Option Value)
    (hm : a.eval m = .map (some b)) (hown : IMap w b n T) (hn : n < maxLen) (key : Int) (val : Value) (hx : a.eval x = .int .i64 key) (hv : a.eval v = val) (hk : -9223372036854775808 ≤ key ∧ key ≤ 9223372036854775807)
    (hK : ∀ w', IMap w' b (n + 1) (fun k => if k = key then some val else T k) → w.grownBy w' (some b) → wpList P ops Q rest (a.put o.dst undef) w') :
    wpList P ops Q (o :: rest) a w := by
  subst hP
  refine wpList_plain hg fun K' hK' => ?_
  obtain ⟨w', hrun, r1, r2⟩ := hown.store ht hn hk val
  unfold Oper.wp
  simp [execOp, hop, hm, hx, hv, hrun, Result.andThen]
  exact hK' _ _ (hK w' r1 r2)

end Go.Proofs.YtleoelhhndeheaaGreat

/- package ledger: may -/
open Go Go.RowKit
namespace Go.Proofs.YtleoelhhndeheaaGreat

/-- the keys that were seen -/
def seenM (s : List Int) : Int → Option Value := fun k => if k ∈ s then some (.bool true) else none
theorem seenM_cons (s : List Int) (x : Int) : (fun k => if k = x then some (Value.bool true) else seenM s k) = seenM (x :: s) := by
  funext k
  unfold seenM
  by_cases h : k = x
  · simp [h]
  · by_cases h2 : k ∈ s <;> simp [h, h2]
def badEnt (homes : Int) (s : List Int) (x : Ent) : Bool := ! decide (0 ≤ x.1 ∧ x.1 < homes ∧ x.2.length = 96 ∧ x.1 ∉ s)
theorem mayFrom_cons (homes : Int) (x : Ent) (r : List Ent) (s : List Int) : mayFrom homes (x :: r) s = (decide (0 ≤ x.1 ∧ x.1 < homes ∧ x.2.length = 96 ∧ x.1 ∉ s) && mayFrom homes r (x.1 :: s)) := rfl

set_option maxRecDepth 100000 in
set_option maxHeartbeats 4000000 in
theorem may_any (a : Option Addr) (n cap : Nat) (l : List Ent) (N : Nat → Prop) (homes : Int) (w : World) (h : EntsAt w N a n l) (hn : n ≤ 1000000) (hh : 0 ≤ homes ∧ homes ≤ 1000000) :
    Calls Tryz.prog 68 #[.slice a n cap, .int .i64 homes] w fun e w' => e = .returned (.bool (mayE l homes)) ∧ Below w.heap.size w w' := by
  have HH := hid h
  have hix := fun k (hk : k < n) => h.idx (cap := cap) hk
  have HL := hid h.len
  have im0 := IMap.made w
  obtain ⟨mb, hmb⟩ : ∃ mb, w.heap.size = mb := ⟨_, rfl⟩
  rw [hmb] at im0
  have HMB := hid hmb
  clear h
  have hmm := @run_makeMap Tryz.prog
  go_enter Tryz.func68, Tryz.ntmps68
  go_wp2_with fail
  go_loopw [11] (fun v wr => ∃ k m : Nat, v = .int .i64 k ∧ k ≤ n ∧ m ≤ k ∧ IMap wr mb m (seenM ((l.take k).reverse.map Prod.fst)) ∧ Below mb w wr ∧ mb < wr.heap.size ∧ Hid (mayFrom homes l [] = mayFrom homes (l.drop k) ((l.take k).reverse.map Prod.fst))) (fun v _ => n - (intOf v).toNat)
  case atStart => exact ⟨0, 0, rfl, Nat.zero_le _, Nat.le_refl _, im0.congr (fun x => by simp [seenM]), (Below.refl _ _).alloc (by have := HMB.out; omega) _, by have := HMB.out; simp; omega, hid rfl⟩
  case round =>
    obtain ⟨k, m, rfl, hk, hm, IM, B, hml, HM⟩ := hrel
    by_cases hlt : k < n
    · have hixk := hix k hlt
      obtain ⟨⟨xa, xz⟩, hx⟩ : ∃ x, l[k]? = some x := ⟨_, List.getElem?_eq_getElem (by rw [HL.out]; exact hlt)⟩
      have E := HH.out.below B (by have := HMB.out; omega)
      have e0 := E.c0 k _ hx
      obtain ⟨b, c, e1, -, -, -, -⟩ := E.c1 k _ hx
      obtain ⟨b1, b2, b3⟩ := E.bd _ (List.mem_of_getElem? hx)
      have HX := hid hx
      have HT := hid (take_succ_ent hx)
      have HD := hid (drop_ent hx)
      obtain ⟨s, hs⟩ : ∃ s, (l.take k).reverse.map Prod.fst = s := ⟨_, rfl⟩
      rw [hs] at IM HM
      have HS := hid hs
      simp only at e0 e1 b1 b2 b3
      obtain ⟨len, hlen⟩ : ∃ len, xz.length = len := ⟨_, rfl⟩
      rw [hlen] at e1 b3
      have HLN := hid hlen
      clear hx hs hlen E
      obtain ⟨W1, hW1⟩ : ∃ W1, wr.alloc (.cells #[.int .i64 xa, .slice b len c] 100) = W1 := ⟨_, rfl⟩
      have BW1 : Below wr.heap.size wr W1 := by rw [← hW1]; exact (Below.refl _ _).alloc (Nat.le_refl _) _
      have x1 : W1.heap[wr.heap.size]? = some (.cells #[.int .i64 xa, .slice b len c] 100 (0, 0)) := by rw [← hW1]; exact blk_new _ _
      obtain ⟨xb, hxb⟩ : ∃ xb, wr.heap.size = xb := ⟨_, rfl⟩
      rw [hxb] at x1
      have y0 : W1.cell? ⟨xb, 0, none⟩ = some (.int .i64 xa) := blk_cell x1 rfl
      have y1 : W1.cell? ⟨xb, 1, none⟩ = some (.slice b len c) := blk_cell x1 rfl
      have IM1 := IM.below BW1 (Nat.le_refl _)
      have lk := IM1.look Tryz.underlying116 (zB W1) (x := xa) ⟨b1, b2⟩
      have B1 : Below mb w W1 := B.trans (BW1.mono (by omega))
      have BE : Below w.heap.size w W1 := by have := HMB.out; rw [this]; exact B1
      have sz1 := BW1.size
      clear x1
      have bad : ¬ (0 ≤ xa ∧ xa < homes ∧ len = 96 ∧ xa ∉ s) → mayE l homes = false := fun h => by
        unfold mayE
        rw [HM.out, HD.out, mayFrom_cons]
        simp only
        rw [HLN.out, decide_eq_false h]
        rfl
      have BAD := hid bad
      clear bad
      by_cases h1 : xa < 0
      · have HR := hid (BAD.out (by omega))
        go_wp2_with fail
        go_ret
        exact ⟨ret_bool HR.out.symm, by first | exact BE | exact B1⟩
      · by_cases h2 : xa < homes
        · have h2' : decide (homes ≤ xa) = false := decide_eq_false (by omega)
          by_cases h3 : len = 96
          · subst h3
            by_cases h4 : xa ∈ s
            · have e4 : (seenM s xa).getD (.bool false) = .bool true := by unfold seenM; rw [if_pos h4]; rfl
              rw [e4] at lk
              have HR := hid (BAD.out (by simp [h4]))
              clear e4 h4
              go_wp2_with fail
              go_ret
              exact ⟨ret_bool HR.out.symm, by first | exact BE | exact B1⟩
            · have e4 : (seenM s xa).getD (.bool false) = .bool false := by unfold seenM; rw [if_neg h4]; rfl
              rw [e4] at lk
              have GOOD := hid h4
              clear e4 h4
              go_wp2_with (at_mapUpdate; refine wpList_mapUpdate_im rfl W1 rfl _ _ _ 116 rfl 4 Tryz.underlying116 mb m (seenM s) rfl IM1 (by simp only [maxLen]; omega) xa (.bool true) rfl rfl ⟨b1, b2⟩ ?_)
              intro w4 IM4 G4
              rw [seenM_cons] at IM4
              have B4 : Below mb w w4 := B1.grown G4 (by omega) (by intro q hq; cases hq; exact Nat.le_refl _)
              have sz4 := G4.size
              clear G4
              go_wp2_with fail
              go_roundw
              case measure => simp [intOf]; omega
              case rel =>
                refine ⟨k + 1, m + 1, by go_num, by omega, by omega, ?_, B4, by omega, ?_⟩
                · rw [HT.out, List.reverse_append, List.map_append, HS.out]
                  exact IM4
                · refine hid ?_
                  rw [HM.out, HD.out, mayFrom_cons, HT.out, List.reverse_append, List.map_append, HS.out]
                  simp only
                  rw [HLN.out, decide_eq_true (show 0 ≤ xa ∧ xa < homes ∧ 96 = 96 ∧ xa ∉ s from ⟨by omega, h2, rfl, GOOD.out⟩)]
                  rfl
          · have q3 : ((len : Int) != 96) = true := by simp; omega
            have HR := hid (BAD.out (by simp [h3]))
            clear h3
            go_wp2_with fail
            go_ret
            exact ⟨ret_bool HR.out.symm, by first | exact BE | exact B1⟩
        · have h2' : decide (homes ≤ xa) = true := decide_eq_true (by omega)
          have HR := hid (BAD.out (by omega))
          go_wp2_with fail
          go_ret
          exact ⟨ret_bool HR.out.symm, by first | exact BE | exact B1⟩
    · obtain rfl : k = n := by omega
      have HR := hid (show mayE l homes = decide (0 < k) by
        unfold mayE
        rw [HM.out, List.drop_eq_nil_of_le (by rw [HL.out]; omega), HL.out]
        rfl)
      have BE : Below w.heap.size w wr := by have := HMB.out; rw [this]; exact B
      by_cases h0 : 0 < k
      · have h0' : (0 : Int) < (k : Int) := by omega
        go_wp2_with fail
        go_ret
        exact ⟨ret_bool (by rw [HR.out, decide_eq_true h0]), by first | exact BE | exact B⟩
      · have h0' : ¬ (0 : Int) < (k : Int) := by omega
        go_wp2_with fail
        go_ret
        exact ⟨ret_bool (by rw [HR.out, decide_eq_false h0]), by first | exact BE | exact B⟩

end Go.Proofs.YtleoelhhndeheaaGreat
