/- lariatref3's drum: Look, Lay -/
import Derived.Test.YtfijglkealnopaaRefD2
open Go Go.RowKit
namespace Go.Proofs.Ytfijglkealnopaa

/-- what is looked at: the last lay afloat of k among the first so many, or what was settled -/
def RS.lookTo (s : RS) (k : Nat) : Nat → List Int
  | 0 => s.K k
  | j + 1 => if (s.up[j]?.getD (0, [])).1 = k then (s.up[j]?.getD (0, [])).2 else s.lookTo k j
def RS.look (s : RS) (k : Nat) : List Int := s.lookTo k s.up.length

/-- text as bytes: a new row -/
theorem conv_bytes {P : Program} {src dst e : TypeId} (hs : P.underlying src = some .string) (hd : P.underlying dst = some (.slice e)) (he : P.underlying e = some (.int .u8)) (w : World) {zs : List Int} (hb : IsBytes zs) :
    (convert src dst (.string (strOfNums zs))).run P w = .ok (.slice (some ⟨w.heap.size, 0, none⟩) (strOfNums zs).size (grownCap w (strOfNums zs).size 0 e)) (Lib.bytesWorld w e (strOfNums zs)) ∧
      Row (Lib.bytesWorld w e (strOfNums zs)) (some ⟨w.heap.size, 0, none⟩) (B8 zs) ∧ Below w.heap.size w (Lib.bytesWorld w e (strOfNums zs)) := by
  refine ⟨Lib.run_convert_string_bytes w src dst e _ hs hd he, ⟨fun _ => rfl, fun i v hv => ?_⟩, ?_⟩
  · have hi : i < zs.length := by have := (List.getElem?_eq_some_iff.1 hv).1; simpa using this
    show (Lib.bytesWorld w e (strOfNums zs)).cell? ⟨w.heap.size, 0 + i, none⟩ = some v
    rw [Nat.zero_add, Lib.bytesWorld_cell w e _ i (by rw [strOfNums_size]; exact hi)]
    rw [← hv, strOfNums_data]
    simp only [List.getD_eq_getElem?_getD, List.getElem?_map, List.getElem?_eq_getElem hi, Option.map_some, Option.getD_some]
    have h1 := hb _ (List.getElem_mem hi)
    rw [UInt8.toNat_ofNat']
    congr 2
    omega
  · refine ⟨rfl, ?_, rfl, by rw [Lib.bytesWorld_size]; omega, fun j hj => Lib.bytesWorld_at_old w e _ j hj⟩
    rfl

theorem lookTo_succ (s : RS) (k j : Nat) : s.lookTo k (j + 1) = if (s.up[j]?.getD (0, [])).1 = k then (s.up[j]?.getD (0, [])).2 else s.lookTo k j := rfl
theorem lookTo_props {w : World} {R : Dom} {p : RP} {s : RS} (h : RefP w R p s) {k : Nat} (hk : k < s.n) : ∀ j, j ≤ s.up.length → (s.lookTo k j).length = 96 ∧ IsBytes (s.lookTo k j)
  | 0, _ => h.kl k hk
  | j + 1, hj => by
    have hq : s.up[j]? = some s.up[j] := List.getElem?_eq_getElem (by omega)
    rw [lookTo_succ, hq]
    simp only [Option.getD_some]
    split
    · exact (h.upl _ (List.getElem_mem _)).2
    · exact lookTo_props h hk j (by omega)
def RLook (s : RS) (k : Int) (e : Ending) (w' : World) : Prop :=
  (¬ (0 ≤ k ∧ k < s.n) ∧ e = .returned (.tuple #[.slice none 0 0, .int .i64 1])) ∨ (0 ≤ k ∧ k < s.n ∧ s.broken = true ∧ e = .returned (.tuple #[.slice none 0 0, .int .i64 4])) ∨
        (0 ≤ k ∧ k < s.n ∧ s.broken = false ∧ ∃ a c, e = .returned (.tuple #[.slice (some a) 96 c, .int .i64 0]) ∧ Row w' (some a) (B8 (s.look k.toNat)))

set_option maxRecDepth 100000 in
theorem rlook_any {w : World} {R : Dom} {r : Nat} {s : RS} (h : RefAt w R r s) (k : Int) :
    Calls Try.prog 26 #[.pointer (some ⟨r, 0, none⟩), .int .i64 k] w fun e w' => RLook s k e w' ∧ Below w.heap.size w w' := by
  obtain ⟨p, rfl, h⟩ := h
  obtain ⟨c0, c1, -, c3, -⟩ := h.cells
  have H := hid h
  by_cases hk0 : 0 ≤ k
  · by_cases hkn : k < s.n
    · obtain ⟨i, rfl⟩ : ∃ i : Nat, k = i := ⟨k.toNat, by omega⟩
      have hi : i < s.n := by omega
      obtain ⟨b, hb⟩ : ∃ b, s.broken = b := ⟨_, rfl⟩
      rw [hb] at c3
      have HBB := hid hb
      have n1 : ¬ ((i : Int) < 0) := by omega
      have n2 : ¬ ((s.n : Int) ≤ (i : Int)) := by omega
      have ct : w.cell? ⟨p.tb, i, none⟩ = some (.string (strOfNums (s.K i))) := (h.trow.cellAt i (by omega)).trans (strK_get _ hi)
      obtain ⟨aa, ac, hav⟩ := owns_slice h.arow
      have ul := h.ul
      rw [hav] at c1
      obtain ⟨L, hL⟩ : ∃ L, s.up.length = L := ⟨_, rfl⟩
      rw [hL] at c1 ul
      have HL := hid hL
      have HAV := hid hav
      clear h hb hL hav
      cases b with
      | true =>
        go_enter Try.func26, Try.ntmps26
        go_wp2_with fail
        go_ret2
        exact ⟨.inr (.inl ⟨by omega, by omega, HBB.out, rfl⟩), Below.refl _ _⟩
      | false =>
        go_enter Try.func26, Try.ntmps26
        go_wp2_with fail
        go_loopw [6, 7] (fun u v wr => ∃ j : Nat, u = .string (strOfNums (s.lookTo i j)) ∧ v = .int .i64 j ∧ j ≤ L ∧ wr = w) (fun _ v _ => L - (intOf v).toNat)
        case atStart => exact ⟨0, rfl, rfl, Nat.zero_le _, rfl⟩
        case round =>
          obtain ⟨j, rfl, rfl, hj, rfl⟩ := hrel
          by_cases hjL : j < L
          · have hjl : j < s.up.length := by rw [HL.out]; exact hjL
            obtain ⟨g, cg, e1, k1, k2, k3, k4, k5⟩ := H.out.get hjl
            have e1 := HAV.out.symm.trans e1
            obtain ⟨rfl, rfl⟩ : aa = some ⟨g, 0, none⟩ ∧ ac = cg := by cases e1; exact ⟨rfl, rfl⟩
            have hst : s.lookTo i (j + 1) = if (s.up[j]).1 = i then (s.up[j]).2 else s.lookTo i j := by
              show (if (s.up[j]?.getD (0, [])).1 = i then (s.up[j]?.getD (0, [])).2 else s.lookTo i j) = _
              rw [List.getElem?_eq_getElem hjl]; rfl
            obtain ⟨⟨at', zs⟩, hx⟩ : ∃ x, s.up[j] = x := ⟨_, rfl⟩
            rw [hx] at k1 k2 k3 k4 k5 hst
            simp only at k1 k2 k3 k4 k5 hst
            have j1 : (0 : Int) ≤ (j : Int) := by omega
            have j2 : (j : Int) < (L : Int) := by omega
            by_cases hai : at' = i
            · subst hai
              rw [if_pos rfl] at hst
              have HST := hid hst
              clear e1 hst hx hjl
              go_wp2_with fail
              go_roundw
              case measure => simp [intOf]; omega
              case rel => exact ⟨j + 1, by rw [HST.out], by go_num, by omega, trivial⟩
            · rw [if_neg hai] at hst
              have HST := hid hst
              have m1 : ((at' : Int) == (i : Int)) = false := by simp; omega
              have m2 : ¬ ((at' : Int) = (i : Int)) := by omega
              clear e1 hst hx hjl hai
              go_wp2_with fail
              go_roundw
              case measure => simp [intOf]; omega
              case rel => exact ⟨j + 1, by rw [HST.out], by go_num, by omega, trivial⟩
          · obtain rfl : L = j := by omega
            have hlk : s.lookTo i L = s.look i := by unfold RS.look; rw [HL.out]
            obtain ⟨l1, l2⟩ := lookTo_props H.out hi L (by rw [HL.out]; exact Nat.le_refl _)
            rw [hlk] at l1 l2 ⊢
            obtain ⟨z, hz⟩ : ∃ z, s.look i = z := ⟨_, rfl⟩
            rw [hz] at l1 l2 ⊢
            have HZ := hid hz
            obtain ⟨v1, v2, v3⟩ := conv_bytes (P := Try.prog) (src := 9) (dst := 29) (e := 5) Try.underlying9 Try.underlying29 Try.underlying5 wr l2
            rw [strOfNums_size, l1] at v1
            have V2 := hid v2
            have V3 := hid v3
            clear hlk hz v2 v3 l2
            go_wp2_with fail
            go_ret2
            exact ⟨.inr (.inr ⟨by omega, by omega, HBB.out, _, _, rfl, by rw [show (i : Int).toNat = i from rfl, HZ.out]; exact V2.out⟩), V3.out⟩
    · have n1 : ¬ (k < 0) := by omega
      have n2 : (s.n : Int) ≤ k := by omega
      have n3 := hid (show ¬ (0 ≤ k ∧ k < s.n) by omega)
      clear h hkn
      go_enter Try.func26, Try.ntmps26
      go_wp2_with fail
      go_ret2
      exact ⟨.inl ⟨n3.out, rfl⟩, Below.refl _ _⟩
  · have n1 : k < 0 := by omega
    have n3 := hid (show ¬ (0 ≤ k ∧ k < s.n) by omega)
    clear h hk0
    go_enter Try.func26, Try.ntmps26
    go_wp2_with fail
    go_ret2
    exact ⟨.inl ⟨n3.out, rfl⟩, Below.refl _ _⟩

end Go.Proofs.Ytfijglkealnopaa
