/- a []Turn that came in, opened whole, with its sizes -/
import Derived.Test.YtfijglkealnopaaTurnsRows
import Derived.Test.YtfijglkealnopaaIntsArg
import Derived.SizedLaws
open Go Go.RowKit Go.ChangeShapes Go.WideShapes
namespace Go.Proofs.Ytfijglkealnopaa
open Go.Deep

theorem weightsAll_mem {H : Type} {P : Program} {e : TypeId} {d : DataW H} : ∀ {l : List (DataW H)}, d ∈ l → ∀ n ∈ d.weights P e, n ∈ DataW.weightsAll P e l
  | [], h, _, _ => by cases h
  | x :: r, h, n, hn => by
    simp only [DataW.weightsAll, List.mem_append]
    rcases List.mem_cons.1 h with rfl | h
    · exact .inl hn
    · exact .inr (weightsAll_mem h n hn)
theorem weightsEach_mem {H : Type} {P : Program} {d : DataW H} {t : TypeId} : ∀ {ts : List TypeId} {l : List (DataW H)} {j : Nat}, ts[j]? = some t → l[j]? = some d → ∀ n ∈ d.weights P t, n ∈ DataW.weightsEach P ts l :=
  fun h1 h2 => DataW.weights_mem_each h1 h2
theorem bytesE : Try.prog.bytesOf 5 = 1 := by kernel_rfl

theorem row_of_cells {W : World} {x : Addr} {kd : IntKind} {zs : List Int} {l : Nat} (hl : l ≤ zs.length) (hcell : ∀ i, i < zs.length → W.cell? (x.add i) = some (.int kd (zs.getD i 0))) : Row W (some x) ((zs.take l).map (Value.int kd)) := by
  have hx : 0 < l → some x = some ⟨sB (some x), sO (some x), none⟩ := fun h0 => some_of_cell (hcell 0 (by omega))
  refine ⟨fun h0 => hx (by simp at h0; omega), fun i v hv => ?_⟩
  rw [List.getElem?_map, List.getElem?_take] at hv
  split at hv
  · rename_i hi
    obtain ⟨z, hz2, rfl⟩ := Option.map_eq_some_iff.1 hv
    have e := hx (by omega)
    rw [Option.some.injEq] at e
    have h1 := hcell i (by omega)
    rw [e, add_eq, List.getD_eq_getElem?_getD, hz2] at h1
    exact h1
  · simp at hv
theorem open_bytesR {H : Type} {enc : TypeId × Value → H} {W : World} {k : Nat} {v : Value} {y : DataW H × List MemPlace} (h : DataW.trod enc Try.prog W 0 (fun _ => true) true k 29 [v] = some y) (hw : ∀ n ∈ y.1.weights Try.prog 29, n ≤ reachBytes) :
    ∃ a l c zs, v = .slice a l c ∧ Row W a (B8 zs) ∧ zs.length = l ∧ IsBytes zs ∧ (a = none → l = 0 ∧ c = 0) ∧ l ≤ 140737488351232 := by
  rcases open_ints Try.underlying29 Try.underlying5 (by kernel_rfl) h with ⟨hcs, _⟩ | ⟨x, l, c, zs, hcs, _, hl, hm, hz, hy, hcell, hwz⟩
  · simp at hcs
    exact ⟨none, 0, 0, [], hcs, Row.nil _ _, rfl, (fun n hn => by cases hn), (fun _ => ⟨rfl, rfl⟩), by omega⟩
  · simp at hcs
    simp only [if_true] at hz
    have hb := hw (zs.length * 1) (by
      rw [hy]
      simp only [DataW.weights, Try.underlying29, bytesE, List.mem_cons]
      left
      simp only [lits, List.length_map, List.length_take, List.length_drop]
      omega)
    simp only [reachBytes] at hb
    exact ⟨some x, l, c, zs.take l, hcs, row_of_cells (by omega) hcell, by simp; omega, fun n hn => bd_u8 (hwz n (List.mem_of_mem_take hn)), (fun h => by cases h), by omega⟩
theorem open_intsR {H : Type} {enc : TypeId × Value → H} {W : World} {k : Nat} {v : Value} {y : DataW H × List MemPlace} (h : DataW.trod enc Try.prog W 0 (fun _ => true) true k 23 [v] = some y) :
    ∃ a l c zs, v = .slice a l c ∧ IntsAt W a l c zs ∧ IsNums zs := by
  rcases open_ints Try.underlying23 Try.underlying3 (by kernel_rfl) h with ⟨hcs, _⟩ | ⟨x, l, c, zs, hcs, _, hl, hm, hz, hy, hcell, hwz⟩
  · simp at hcs
    exact ⟨none, 0, 0, [], hcs, IntsAt.none _, fun n hn => by cases hn⟩
  · simp at hcs
    simp only [if_true] at hz
    unfold maxLen at hm
    exact ⟨some x, l, c, zs.take l, hcs, ⟨row_of_cells (by omega) hcell, by simp; omega, (fun h => by cases h), by omega⟩, fun n hn => bd_i64 (hwz n (List.mem_of_mem_take hn))⟩

set_option maxRecDepth 100000 in
set_option maxHeartbeats 1000000 in
theorem turns_open2 {H : Type} {enc : TypeId × Value → H} {W : World} {a : Option Addr} {len cap : Nat} {d : DataW H} {p : List MemPlace} (h : DataW.Trod enc Try.prog W 0 (fun _ => true) true 22 (.slice a len cap) d p)
    (hsz : ∀ n ∈ d.weights Try.prog 22, n ≤ reachBytes) : ∃ X Y, TurnsAt W a len X ∧ TurnsRows W a len Y := by
  obtain ⟨X, hX⟩ := turns_open h
  refine ⟨X, ?_⟩
  obtain ⟨fuel, hf⟩ := h
  have ce : Try.prog.cellsOf 33 = 6 := by kernel_rfl
  have ci : Try.prog.cellsOf 3 = 1 := by kernel_rfl
  have cb : Try.prog.cellsOf 29 = 1 := by kernel_rfl
  have ck : Try.prog.cellsOf 23 = 1 := by kernel_rfl
  rcases open_slice Try.underlying22 hf with ⟨hcs, _⟩ | ⟨x, l, c, m, n, D, Pl, hcs, _, hl, hm, hmm, hd, hx⟩
  · simp [Value.cells] at hcs
    obtain ⟨rfl, rfl, rfl⟩ := hcs
    exact ⟨fun _ => default, hX, ⟨fun i h => by omega, fun i h => by omega, fun i h => by omega⟩⟩
  · simp [Value.cells] at hcs
    obtain ⟨rfl, rfl, rfl⟩ := hcs
    simp only [if_true] at hmm
    subst hmm
    simp only [Prod.mk.injEq] at hd
    obtain ⟨rfl, -⟩ := hd
    have each : ∀ i, i < len → ∃ y : TurnR, W.cell? (x.add (i * 6 + 4)) = some (.slice y.ba y.bl y.bc) ∧ W.cell? (x.add (i * 6 + 5)) = some (.slice y.ka y.kl y.kc) ∧ RowsOk W y := by
      intro i hi
      obtain ⟨cs, h1, h2⟩ := hx i (by omega)
      have hw : ∀ n ∈ (D i).weights Try.prog 33, n ≤ reachBytes := fun n hn => hsz n (by
        simp only [DataW.weights, Try.underlying22, List.mem_cons, List.mem_append]
        exact .inr (.inl (weightsAll_mem (List.mem_map.2 ⟨i, List.mem_range.2 hi, rfl⟩) n hn)))
      rw [ce] at h1
      obtain ⟨_, hlen, hcell⟩ := World.cells?_some h1
      obtain ⟨xs, k, hk, hxy, _, hxl, hff⟩ := DataW.trod_struct Try.underlying33 h2
      simp only [Prod.mk.injEq] at hxy
      obtain ⟨hxy, -⟩ := hxy
      match cs, hlen with
      | [v0, v1, v2, v3, v4, v5], _ =>
        have g4 := hff 4 _ rfl
        have g5 := hff 5 _ rfl
        simp [cb, ck] at g4 g5
        match xs, hxl with
        | [y0, y1, y2, y3, y4, y5], _ =>
          have k4 := hcell 4 (by omega)
          have k5 := hcell 5 (by omega)
          rw [add_add] at k4 k5
          have g4' : DataW.trod enc Try.prog W 0 (fun _ => true) true k 29 [v4] = some y4 := by simpa using g4
          have g5' : DataW.trod enc Try.prog W 0 (fun _ => true) true k 23 [v5] = some y5 := by simpa using g5
          obtain ⟨ba, bl, bc, bz, rfl, b1, b2, b3, b4, b5⟩ := open_bytesR g4' (fun n hn => hw n (by
            rw [hxy]
            simp only [DataW.weights, Try.underlying33]
            exact weightsEach_mem (j := 4) rfl rfl n hn))
          obtain ⟨ka, kl, kc, kz, rfl, c1, c2⟩ := open_intsR g5'
          exact ⟨⟨ba, bl, bc, bz, ka, kl, kc, kz⟩, by simpa using k4, by simpa using k5, ⟨b1, b2, b3, b4, b5, c1, c2⟩⟩
    obtain ⟨q, hq⟩ := choose_lt each
    have hsome : 0 < len → some x = some ⟨sB (some x), sO (some x), none⟩ := fun h => hX.nn h
    have hadd : ∀ i j, i < len → x.add (i * 6 + j) = ⟨sB (some x), sO (some x) + i * 6 + j, none⟩ := fun i j hi => by
      have h7 := hsome (by omega)
      rw [Option.some.injEq] at h7
      conv => lhs; rw [h7, add_eq]
      rw [Nat.add_assoc]
    refine ⟨q, hX, ⟨fun i hi => ?_, fun i hi => ?_, fun i hi => (hq i hi).2.2⟩⟩
    · have := (hq i hi).1; rw [hadd i 4 hi] at this; exact this
    · have := (hq i hi).2.1; rw [hadd i 5 hi] at this; exact this

end Go.Proofs.Ytfijglkealnopaa
