/- the laws' entries -/
import Derived.Test.YtddcggdbnhmoiaaLawL3
import Derived.Test.YtddcggdbnhmoiaaHand
open Go Go.RowKit
namespace Go.Proofs.Ytddcggdbnhmoiaa

def hadCells (H : Nat → Bool) : List Value := (List.range 64).map fun q => .bool (H q)
def refCells (l : List Ent) : List Value := l.flatMap fun x => [.int .i64 x.1, .string (strOfNums x.2)]
theorem EntsOwn.ext {w w' : World} {lo : Nat} {v : Value} {l : List Ent} (h : EntsOwn w lo v l) {F : Nat → Prop} (kx : Ext F w w') (hF : ∀ q, F q → q < lo) : EntsOwn w' lo v l := by
  obtain ⟨us, h0, h1, h2⟩ := h.row
  refine ⟨us, h0, kx.owns2 (fun g hg hf => by have := own_base h1 g hg; have := hF g hf; omega) h1, fun i x hi => ?_⟩
  obtain ⟨u, h3, h4, r⟩ := h2 i x hi
  exact ⟨u, h3, kx.owns2 (fun g hg hf => by have := own_base h4 g hg; have := hF g hf; omega) h4, r⟩
theorem EntsOwn.grown {w w' : World} {lo lo2 n : Nat} {v v2 : Value} {l : List Ent} {xs : List Value} (h : EntsOwn w lo v l) (hg : w.grownBy w' v2.ownBlock) (h2 : w.ownsRow lo2 70 2 v2 n xs) : EntsOwn w' lo v l := by
  obtain ⟨us, h0, h1, h3⟩ := h.row
  refine ⟨us, h0, h1.kept hg ?_, fun i x hi => ?_⟩
  · by_cases hn : v.ownBlock = none
    · exact .inl hn
    · right
      intro e
      obtain ⟨g, hgg⟩ := Option.ne_none_iff_exists'.1 hn
      exact owns_ne2 h2 h1 (by decide) g hgg (by rw [← e, hgg])
  · obtain ⟨u, h4, h5, r⟩ := h3 i x hi
    refine ⟨u, h4, h5.kept hg ?_, r⟩
    by_cases hn : u.ownBlock = none
    · exact .inl hn
    · right
      intro e
      obtain ⟨g, hgg⟩ := Option.ne_none_iff_exists'.1 hn
      exact owns_ne2 h2 h5 (by decide) g hgg (by rw [← e, hgg])
theorem page_owns {w : World} {g lo : Nat} {c : Int} (hb : w.heap[g]? = some (.cells (B8 (pageE c)).toArray 5 (0, 0))) (hg : lo ≤ g) : w.ownsRow lo 5 1 (.slice (some ⟨g, 0, none⟩) 96 96) 96 (B8 (pageE c)) := by
  have hl : (B8 (pageE c)).length = 96 := by rw [B8_length, pageE_length]
  exact ⟨by rw [hl], .inr ⟨g, 96, _, rfl, hg, hb, Nat.le_refl _, by decide, by simpa using hl, by rw [List.take_of_length_le (by simp [hl])]⟩⟩
theorem iRef : (Try.prog.info? 70).map (fun i => (i.zero, i.size, i.bytes)) = some (some (.agg #[.int .i64 0, .string ⟨#[]⟩]), 2, 24) := by kernel_rfl
set_option maxRecDepth 100000 in
set_option maxHeartbeats 4000000 in
theorem entries5_any (xw xn xt xc : Int) (aa : Option Addr) (al ac : Nat) (az : List Int) (kv : Value) (home most : Nat) (w : World) (hA : IntsAt w aa al ac az) (hN : -9223372036854775808 ≤ xn ∧ xn ≤ 9223372036854775807) (hB : IsNums az) (hh : 0 < home ∧ home ≤ 4096) (hm : most ≤ 8) :
    Calls Try.prog 16 #[.agg #[.int .i64 xw, .int .i64 xn, .int .i64 xt, .int .i64 xc, .slice aa al ac, kv], .int .i64 (home : Int), .int .i64 (most : Int)] w fun e w' => ∃ va vb el, e = .returned (.tuple #[va, vb]) ∧ EntsOwn w' w.heap.size va el ∧ w'.ownsRow w.heap.size 70 2 vb el.length (refCells el) ∧ (∀ x ∈ el, 0 ≤ x.1 ∧ x.1 ≤ home) ∧ el.length ≤ most ∧ Below w.heap.size w w' := by
  obtain ⟨ie, hie, hez0, hez1, hez2⟩ := info_parts iEnt
  obtain ⟨ir, hir, hrz0, hrz1, hrz2⟩ := info_parts iRef
  have hix : ∀ (k : Nat), k < al → ∀ W', (Instr.indexAt 34 (.slice aa al ac) (.int .i64 k)).run Try.prog W' = .ok (.pointer (some ⟨sB aa, sO aa + k, none⟩)) W' := fun k hk W' => idx_at1 (P := Try.prog) Try.underlying34 (by kernel_rfl) (fun h => hA.row.nn (by simpa [hA.len] using h)) hk W'
  have HA := hid hA
  have HB := hid hB
  have HM := hid hm
  clear hA hB hm
  go_enter Try.func16, Try.ntmps16
  go_wp2_with fail
  obtain ⟨p, hp⟩ : ∃ p, w.heap.size = p := ⟨_, rfl⟩
  rw [hp]
  go_loopw [8, 9, 11] (fun a b i wr => ∃ (k : Nat) (va vb : Value) (el : List Ent) (H : Nat → Bool), va = a ∧ vb = b ∧ i = .int .i64 k ∧ k ≤ most ∧ k ≤ al ∧ Hid (EntsOwn wr (p + 2) va el) ∧ Hid (wr.ownsRow (p + 2) 70 2 vb el.length (refCells el)) ∧ Hid (∀ x ∈ el, 0 ≤ x.1 ∧ x.1 ≤ home) ∧ Hid (el.length ≤ k) ∧
    Hid (wr.heap[p]? = some (.cells #[.int .i64 xw, .int .i64 xn, .int .i64 xt, .int .i64 xc, .slice aa al ac, kv] 36 (0, 0))) ∧ Hid (wr.heap[p + 1]? = some (.cells (hadCells H).toArray 68 (0, 0))) ∧ Below p w wr ∧ p + 2 ≤ wr.heap.size) (fun _ _ i _ => most - (Go.RowKit.intOf i).toNat)
  case atStart =>
    refine ⟨0, _, _, [], fun _ => false, rfl, rfl, rfl, Nat.zero_le _, Nat.zero_le _, hid (EntsOwn.nil _ _), hid (World.ownsRow_nil _ _ _ _), hid (fun x hx => by cases hx), hid (Nat.le_refl _), hid ?_, hid ?_, ?_⟩
    · exact blk_old _ (blk_at _ hp.symm)
    · exact blk_at _ (by simp [hp])
    · exact ⟨((Below.refl _ _).alloc (by omega) _).alloc (by simp; omega) _, by simp; omega⟩
  case round =>
    obtain ⟨k, va, vb, el, H, rfl, rfl, rfl, hk1, hk2, EO, RO, EB, EL, PX, PH, BR, szr⟩ := hrel
    have c4 : wr.cell? ⟨p, 4, none⟩ = some (.slice aa al ac) := blk_cell PX.out rfl
    have c1 : wr.cell? ⟨p, 1, none⟩ = some (.int .i64 xn) := blk_cell PX.out rfl
    by_cases hgo : k < al ∧ k < most
    · obtain ⟨h1, h2⟩ := hgo
      have hixk := hix k h1
      have hk8 : k < 8 := by have := HM.out; omega
      obtain ⟨z, hz⟩ : ∃ z, az[k]? = some z := ⟨_, List.getElem?_eq_getElem (by rw [HA.out.len]; exact h1)⟩
      have cz0 : w.cell? ⟨sB aa, sO aa + k, none⟩ = some (.int .i64 z) := HA.out.row.cell k _ (by simp [I8, hz])
      have hne : sB aa ≠ p + 1 := by have := lt_of_cell cz0; omega
      have hne2 : p + 1 ≠ sB aa := fun e => hne e.symm
      clear cz0
      have cz : wr.cell? ⟨sB aa, sO aa + k, none⟩ = some (.int .i64 z) := (HA.out.row.below BR (by omega)).cell k _ (by simp [I8, hz])
      have hzb := HB.out z (List.mem_of_getElem? hz)
      clear hz
      go_wp2_with fail
      refine (pick_any z home wr hzb (by omega) (by omega)).mono ?_
      rintro e w2 ⟨rfl, rfl⟩
      obtain ⟨x, hx, hxl⟩ : ∃ x : Nat, z % (home : Int) = x ∧ x < home := by
        have g1 := Int.emod_nonneg z (b := home) (by omega)
        have g2 := Int.emod_lt_of_pos z (b := home) (by omega)
        exact ⟨(z % (home : Int)).toNat, by omega, by omega⟩
      rw [hx]
      clear hx
      have hm64 : x % 64 < 64 := Nat.mod_lt _ (by omega)
      obtain ⟨m, hmm, hml⟩ : ∃ m, x % 64 = m ∧ m < 64 := ⟨_, rfl, hm64⟩
      obtain ⟨hb, hHb⟩ : ∃ hb, H m = hb := ⟨_, rfl⟩
      have ch : wr.cell? ⟨p + 1, m, none⟩ = some (.bool hb) := blk_cell PH.out (by simp [hadCells, hml, hHb])
      have fz := fun o => blk_free (o := o) PH.out
      have lq := lt_of_blk PH.out
      obtain ⟨r, hr⟩ : ∃ r, xn.tmod 11 = r := ⟨_, rfl⟩
      by_cases hskip : hb = true ∧ 0 < r
      · obtain ⟨rfl, hr0⟩ := hskip
        go_wp2_with fail
        go_roundw
        case measure => simp [Go.RowKit.intOf]; omega
        case rel => exact ⟨k + 1, _, _, el, H, rfl, rfl, by go_num, by omega, by omega, EO, RO, EB, hid (by have := EL.out; omega), PX, PH, BR, szr⟩
      · obtain ⟨H', hH'⟩ : ∃ H' : Nat → Bool, H' = fun q => decide (q = m) || H q := ⟨_, rfl⟩
        have PH' := hid (show ((hadCells H).toArray.setIfInBounds m (.bool true)) = (hadCells H').toArray by
          subst hH'
          apply Array.ext'
          simp only [Array.toList_setIfInBounds, List.toList_toArray]
          apply List.ext_getElem?
          intro i
          rw [List.getElem?_set]
          by_cases him : m = i
          · subst him; simp [hadCells, hml]
          · rw [if_neg him]
            have : (fun q => decide (q = m) || H q) i = H i := by simp; intro h; omega
            unfold hadCells
            rw [List.getElem?_map, List.getElem?_map]
            cases hi : (List.range 64)[i]? with
            | none => rfl
            | some q =>
              have hq : q = i := by have := List.getElem?_eq_some_iff.1 hi; obtain ⟨h3, h4⟩ := this; simpa using h4.symm
              subst hq
              simp [this])
        have X1 := Ext.set (w := wr) (b := p + 1) (o := m) (v := .bool true)
        have EO1 := hid (EO.out.ext X1 (fun q hq => by omega))
        have RO1 := hid (X1.owns2 (fun g hg hf => by have := own_base RO.out g hg; omega) RO.out)
        have PX1 := hid (X1.blk (by omega) PX.out)
        have PH1 := hid ((blk_setCell PH.out (o := m) (.bool true)).trans (by rw [PH'.out]))
        have BR1 : Hid (Below p w (wr.setCell ⟨p + 1, m, none⟩ (.bool true))) := hid (Below.setCell BR (by show p ≤ p + 1; omega) _)
        have sz1 := hid (show (wr.setCell ⟨p + 1, m, none⟩ (.bool true)).heap.size = wr.heap.size by simp)
        have HSK := hid hskip
        clear hH' hHb
        have key : hb = false ∨ ¬ (0 < r) := by
          cases hb
          · exact .inl rfl
          · exact .inr (fun h => hskip ⟨rfl, h⟩)
        clear hskip HSK
        clear EO RO PX PH
        by_cases h89 : z.tmod 89 = 88
        · rcases key with rfl | hr0
          case' inr => cases hb
          all_goals (
            go_wp2_with fail
            refine (page_any _ _).mono ?_
            rintro e w3 ⟨gp, rfl, hb3, hg3, B3⟩
            obtain ⟨c, hc⟩ : ∃ c, wrap64 (wrap64 (xn * 7) + (k : Int)) = c := ⟨_, rfl⟩
            rw [hc] at hb3
            clear hc
            have sz3 : wr.heap.size ≤ w3.heap.size := by have := B3.size; rw [sz1.out] at this; exact this
            have EO3 := (EO1.out.below B3 (Nat.le_refl _)).alloc (.cells #[.int .i64 (home : Int), .slice (some ⟨gp, 0, none⟩) 96 96] 47)
            have RO3 := hid (((Ext.of_below B3 (fun _ => False)).owns2 (fun _ _ => id) RO1.out).alloc (.cells #[.int .i64 (home : Int), .slice (some ⟨gp, 0, none⟩) 96 96] 47))
            obtain ⟨us, u0, u1, u2⟩ := EO3.row
            have pg3 : (w3.alloc (.cells #[.int .i64 (home : Int), .slice (some ⟨gp, 0, none⟩) 96 96] 47)).ownsRow (p + 2) 5 1 (.slice (some ⟨gp, 0, none⟩) 96 96) 96 (B8 (pageE c)) := World.ownsRow.alloc (page_owns hb3 (by rw [sz1.out] at hg3; omega)) _
            have PX3 := hid (blk_old (.cells #[.int .i64 (home : Int), .slice (some ⟨gp, 0, none⟩) 96 96] 47) ((B3.block p (by rw [sz1.out]; omega)).trans PX1.out))
            have PH3 := hid (blk_old (.cells #[.int .i64 (home : Int), .slice (some ⟨gp, 0, none⟩) 96 96] 47) ((B3.block (p + 1) (by rw [sz1.out]; omega)).trans PH1.out))
            have BR3 : Below p w (w3.alloc (.cells #[.int .i64 (home : Int), .slice (some ⟨gp, 0, none⟩) 96 96] 47)) := (BR1.out.trans (B3.mono (by rw [sz1.out]; omega))).alloc (by omega) _
            clear EO1 RO1 PX1 PH1 BR1
            go_wp2_with (at_builtin; refine wpList_append_own (P := Try.prog) _ rfl _ _ 41 rfl (p + 2) 47 ie (.agg #[.int .i64 0, .slice none 0 0]) 2 32 Try.underlying41 hie hez0 hez1 hez2 rfl (by decide) va el.length (entCells el us) rfl u1 ⟨w3.heap.size, 0, none⟩ 1 1 [.int .i64 (home : Int), .slice (some ⟨gp, 0, none⟩) 96 96] rfl rfl (row_new w3 #[.int .i64 (home : Int), .slice (some ⟨gp, 0, none⟩) 96 96] 47).news (fun u hu => by simp at hu; rcases hu with rfl | rfl <;> rfl) ?c3 ?c4 ?c5 ?_)
            case c3 => have := EL.out; simp only [maxLen]; omega
            case c4 => have := EL.out; omega
            case c5 => simp; omega
            intro v4 w4 O4 G4 _
            have B4 := (Below.refl _ _).grown (B := p + 2) G4 (by simp; omega) (own_base u1)
            have LP := hid (EntsOwn.push (x := (((home : Nat) : Int), pageE c)) u0 u1 u2 pg3 (pageE_bytes c) ⟨by omega, by omega⟩ O4 G4)
            have RO4 := hid (RO3.out.kept G4 (by
              by_cases hn : vb.ownBlock = none
              · exact .inl hn
              · right
                intro e
                obtain ⟨g, hg⟩ := Option.ne_none_iff_exists'.1 hn
                exact owns_ne2 u1 RO3.out (by decide) g hg (by rw [← e, hg])))
            have pg4 := pg3.kept G4 (by
              right
              intro e
              exact owns_ne2 u1 pg3 (by decide) gp rfl (by rw [← e]; rfl))
            have PX4 := hid (B4.block p (by omega) |>.trans PX3.out)
            have PH4 := hid (B4.block (p + 1) (by omega) |>.trans PH3.out)
            have BR4 := hid (BR3.trans (B4.mono (by omega)))
            have sz4 := B4.size
            obtain ⟨_, _, e8, -, -, -, rw4, -, -⟩ := row_of_owns pg4
            cases e8
            have kc := conv_row (P := Try.prog) Try.underlying33 Try.underlying5 Try.underlying9 96 rw4 (pageE_length c)
            clear u0 u1 u2 pg3 pg4 PX3 PH3 BR3 RO3 O4 G4 EO3
            have sz5 : p + 2 ≤ w4.heap.size := by
              have : (w3.alloc (.cells #[.int .i64 (home : Int), .slice (some ⟨gp, 0, none⟩) 96 96] 47)).heap.size = w3.heap.size + 1 := by simp
              omega
            clear sz4
            obtain ⟨st, hst⟩ : ∃ st, strOfNums (pageE c) = st := ⟨_, rfl⟩
            rw [hst] at kc
            have HST := hid hst
            clear hst
            have RO5 := RO4.out.alloc (.cells #[.int .i64 (home : Int), .string st] 70)
            go_wp2_with (at_builtin; refine wpList_append_own (P := Try.prog) _ rfl _ _ 42 rfl (p + 2) 70 ir (.agg #[.int .i64 0, .string ⟨#[]⟩]) 2 24 Try.underlying42 hir hrz0 hrz1 hrz2 rfl (by decide) vb el.length (refCells el) rfl RO5 ⟨w4.heap.size, 0, none⟩ 1 1 [.int .i64 (home : Int), .string st] rfl rfl (row_new w4 #[.int .i64 (home : Int), .string st] 70).news (fun u hu => by simp at hu; rcases hu with rfl | rfl <;> rfl) ?d3 ?d4 ?d5 ?_)
            case d3 => have := EL.out; simp only [maxLen]; omega
            case d4 => have := EL.out; omega
            case d5 => simp; omega
            intro v6 w6 O6 G6 _
            have LP6 := hid ((EntsOwn.alloc LP.out (.cells #[.int .i64 (home : Int), .string st] 70)).grown G6 RO5)
            have B6 := (Below.refl _ _).grown (B := p + 2) G6 (by simp; omega) (own_base RO5)
            have PX6 := hid ((B6.block p (by omega)).trans (blk_old (.cells #[.int .i64 (home : Int), .string st] 70) PX4.out))
            have PH6 := hid ((B6.block (p + 1) (by omega)).trans (blk_old (.cells #[.int .i64 (home : Int), .string st] 70) PH4.out))
            have BR6 := (BR4.out.alloc (by omega) (.cells #[.int .i64 (home : Int), .string st] 70)).trans (B6.mono (by omega))
            have sz6 : p + 2 ≤ w6.heap.size := by
              have h7 := B6.size
              have : (w4.alloc (.cells #[.int .i64 (home : Int), .string st] 70)).heap.size = w4.heap.size + 1 := by simp
              omega
            have RO6 : Hid (w6.ownsRow (p + 2) 70 2 v6 (el ++ [(((home : Nat) : Int), pageE c)]).length (refCells (el ++ [(((home : Nat) : Int), pageE c)]))) := hid (by
              have e1 : refCells (el ++ [(((home : Nat) : Int), pageE c)]) = refCells el ++ [.int .i64 (home : Int), .string st] := by
                unfold refCells
                rw [List.flatMap_append, ← HST.out]
                rfl
              rw [e1, List.length_append]
              exact O6)
            clear O6 G6 B6 RO5 LP RO4 PX4 PH4 BR4
            go_wp2_with fail
            go_roundw
            case measure => simp [Go.RowKit.intOf]; omega
            case rel =>
              refine ⟨k + 1, v4, v6, _, H', rfl, rfl, by go_num, by omega, by omega, LP6, RO6, hid (fun y hy => ?_), hid (by have := EL.out; simp; omega), PX6, PH6, BR6, sz6⟩
              rcases List.mem_append.1 hy with h | h
              · exact EB.out y h
              · obtain rfl : y = (((home : Nat) : Int), pageE c) := by simpa using h
                exact ⟨by show (0 : Int) ≤ (home : Int); omega, by show (home : Int) ≤ (home : Int); omega⟩)
        · rcases key with rfl | hr0
          case' inr => cases hb
          all_goals (
            go_wp2_with fail
            refine (page_any _ _).mono ?_
            rintro e w3 ⟨gp, rfl, hb3, hg3, B3⟩
            obtain ⟨c, hc⟩ : ∃ c, wrap64 (wrap64 (xn * 7) + (k : Int)) = c := ⟨_, rfl⟩
            rw [hc] at hb3
            clear hc
            have sz3 : wr.heap.size ≤ w3.heap.size := by have := B3.size; rw [sz1.out] at this; exact this
            have EO3 := (EO1.out.below B3 (Nat.le_refl _)).alloc (.cells #[.int .i64 (x : Int), .slice (some ⟨gp, 0, none⟩) 96 96] 47)
            have RO3 := hid (((Ext.of_below B3 (fun _ => False)).owns2 (fun _ _ => id) RO1.out).alloc (.cells #[.int .i64 (x : Int), .slice (some ⟨gp, 0, none⟩) 96 96] 47))
            obtain ⟨us, u0, u1, u2⟩ := EO3.row
            have pg3 : (w3.alloc (.cells #[.int .i64 (x : Int), .slice (some ⟨gp, 0, none⟩) 96 96] 47)).ownsRow (p + 2) 5 1 (.slice (some ⟨gp, 0, none⟩) 96 96) 96 (B8 (pageE c)) := World.ownsRow.alloc (page_owns hb3 (by rw [sz1.out] at hg3; omega)) _
            have PX3 := hid (blk_old (.cells #[.int .i64 (x : Int), .slice (some ⟨gp, 0, none⟩) 96 96] 47) ((B3.block p (by rw [sz1.out]; omega)).trans PX1.out))
            have PH3 := hid (blk_old (.cells #[.int .i64 (x : Int), .slice (some ⟨gp, 0, none⟩) 96 96] 47) ((B3.block (p + 1) (by rw [sz1.out]; omega)).trans PH1.out))
            have BR3 : Below p w (w3.alloc (.cells #[.int .i64 (x : Int), .slice (some ⟨gp, 0, none⟩) 96 96] 47)) := (BR1.out.trans (B3.mono (by rw [sz1.out]; omega))).alloc (by omega) _
            clear EO1 RO1 PX1 PH1 BR1
            go_wp2_with (at_builtin; refine wpList_append_own (P := Try.prog) _ rfl _ _ 41 rfl (p + 2) 47 ie (.agg #[.int .i64 0, .slice none 0 0]) 2 32 Try.underlying41 hie hez0 hez1 hez2 rfl (by decide) va el.length (entCells el us) rfl u1 ⟨w3.heap.size, 0, none⟩ 1 1 [.int .i64 (x : Int), .slice (some ⟨gp, 0, none⟩) 96 96] rfl rfl (row_new w3 #[.int .i64 (x : Int), .slice (some ⟨gp, 0, none⟩) 96 96] 47).news (fun u hu => by simp at hu; rcases hu with rfl | rfl <;> rfl) ?c3 ?c4 ?c5 ?_)
            case c3 => have := EL.out; simp only [maxLen]; omega
            case c4 => have := EL.out; omega
            case c5 => simp; omega
            intro v4 w4 O4 G4 _
            have B4 := (Below.refl _ _).grown (B := p + 2) G4 (by simp; omega) (own_base u1)
            have LP := hid (EntsOwn.push (x := (((x : Nat) : Int), pageE c)) u0 u1 u2 pg3 (pageE_bytes c) ⟨by omega, by omega⟩ O4 G4)
            have RO4 := hid (RO3.out.kept G4 (by
              by_cases hn : vb.ownBlock = none
              · exact .inl hn
              · right
                intro e
                obtain ⟨g, hg⟩ := Option.ne_none_iff_exists'.1 hn
                exact owns_ne2 u1 RO3.out (by decide) g hg (by rw [← e, hg])))
            have pg4 := pg3.kept G4 (by
              right
              intro e
              exact owns_ne2 u1 pg3 (by decide) gp rfl (by rw [← e]; rfl))
            have PX4 := hid (B4.block p (by omega) |>.trans PX3.out)
            have PH4 := hid (B4.block (p + 1) (by omega) |>.trans PH3.out)
            have BR4 := hid (BR3.trans (B4.mono (by omega)))
            have sz4 := B4.size
            obtain ⟨_, _, e8, -, -, -, rw4, -, -⟩ := row_of_owns pg4
            cases e8
            have kc := conv_row (P := Try.prog) Try.underlying33 Try.underlying5 Try.underlying9 96 rw4 (pageE_length c)
            clear u0 u1 u2 pg3 pg4 PX3 PH3 BR3 RO3 O4 G4 EO3
            have sz5 : p + 2 ≤ w4.heap.size := by
              have : (w3.alloc (.cells #[.int .i64 (x : Int), .slice (some ⟨gp, 0, none⟩) 96 96] 47)).heap.size = w3.heap.size + 1 := by simp
              omega
            clear sz4
            obtain ⟨st, hst⟩ : ∃ st, strOfNums (pageE c) = st := ⟨_, rfl⟩
            rw [hst] at kc
            have HST := hid hst
            clear hst
            have RO5 := RO4.out.alloc (.cells #[.int .i64 (x : Int), .string st] 70)
            go_wp2_with (at_builtin; refine wpList_append_own (P := Try.prog) _ rfl _ _ 42 rfl (p + 2) 70 ir (.agg #[.int .i64 0, .string ⟨#[]⟩]) 2 24 Try.underlying42 hir hrz0 hrz1 hrz2 rfl (by decide) vb el.length (refCells el) rfl RO5 ⟨w4.heap.size, 0, none⟩ 1 1 [.int .i64 (x : Int), .string st] rfl rfl (row_new w4 #[.int .i64 (x : Int), .string st] 70).news (fun u hu => by simp at hu; rcases hu with rfl | rfl <;> rfl) ?d3 ?d4 ?d5 ?_)
            case d3 => have := EL.out; simp only [maxLen]; omega
            case d4 => have := EL.out; omega
            case d5 => simp; omega
            intro v6 w6 O6 G6 _
            have LP6 := hid ((EntsOwn.alloc LP.out (.cells #[.int .i64 (x : Int), .string st] 70)).grown G6 RO5)
            have B6 := (Below.refl _ _).grown (B := p + 2) G6 (by simp; omega) (own_base RO5)
            have PX6 := hid ((B6.block p (by omega)).trans (blk_old (.cells #[.int .i64 (x : Int), .string st] 70) PX4.out))
            have PH6 := hid ((B6.block (p + 1) (by omega)).trans (blk_old (.cells #[.int .i64 (x : Int), .string st] 70) PH4.out))
            have BR6 := (BR4.out.alloc (by omega) (.cells #[.int .i64 (x : Int), .string st] 70)).trans (B6.mono (by omega))
            have sz6 : p + 2 ≤ w6.heap.size := by
              have h7 := B6.size
              have : (w4.alloc (.cells #[.int .i64 (x : Int), .string st] 70)).heap.size = w4.heap.size + 1 := by simp
              omega
            have RO6 : Hid (w6.ownsRow (p + 2) 70 2 v6 (el ++ [(((x : Nat) : Int), pageE c)]).length (refCells (el ++ [(((x : Nat) : Int), pageE c)]))) := hid (by
              have e1 : refCells (el ++ [(((x : Nat) : Int), pageE c)]) = refCells el ++ [.int .i64 (x : Int), .string st] := by
                unfold refCells
                rw [List.flatMap_append, ← HST.out]
                rfl
              rw [e1, List.length_append]
              exact O6)
            clear O6 G6 B6 RO5 LP RO4 PX4 PH4 BR4
            go_wp2_with fail
            go_roundw
            case measure => simp [Go.RowKit.intOf]; omega
            case rel =>
              refine ⟨k + 1, v4, v6, _, H', rfl, rfl, by go_num, by omega, by omega, LP6, RO6, hid (fun y hy => ?_), hid (by have := EL.out; simp; omega), PX6, PH6, BR6, sz6⟩
              rcases List.mem_append.1 hy with h | h
              · exact EB.out y h
              · obtain rfl : y = (((x : Nat) : Int), pageE c) := by simpa using h
                exact ⟨by show (0 : Int) ≤ (x : Int); omega, by show (x : Int) ≤ (home : Int); omega⟩)
    · have FIN := hid (show ∃ va' vb' el', (Ending.returned (.tuple #[va, vb]) = Ending.returned (.tuple #[va', vb'])) ∧ EntsOwn wr w.heap.size va' el' ∧ wr.ownsRow w.heap.size 70 2 vb' el'.length (refCells el') ∧ (∀ x ∈ el', 0 ≤ x.1 ∧ x.1 ≤ home) ∧ el'.length ≤ most ∧ Below w.heap.size w wr from
        ⟨va, vb, el, rfl, EO.out.mono (by omega), owns_mono2 RO.out (by omega), EB.out, Nat.le_trans EL.out hk1, by rw [hp]; exact BR⟩)
      by_cases h1 : k < al
      · have h2 : ¬ k < most := by omega
        go_wp2_with fail
        go_ret2
        exact FIN.out
      · go_wp2_with fail
        go_ret2
        exact FIN.out

end Go.Proofs.Ytddcggdbnhmoiaa
