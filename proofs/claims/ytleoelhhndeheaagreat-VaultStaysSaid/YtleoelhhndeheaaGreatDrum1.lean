/- package drum: has, Broken, turn; a track of one byte -/
import Derived.Test.YtleoelhhndeheaaGreatDrum0
open Go Go.RowKit
namespace Go.Proofs.YtleoelhhndeheaaGreat

theorem DrumP.cells {w : World} {M : Dom} {p : DP} {s : DS} (h : DrumP w M p s) :
    w.cell? ⟨p.d, 0, none⟩ = some (.slice (some ⟨p.kb, 0, none⟩) s.n p.kc) ∧ w.cell? ⟨p.d, 1, none⟩ = some (.slice (some ⟨p.nb, 0, none⟩) s.n p.nc) ∧ w.cell? ⟨p.d, 2, none⟩ = some p.av ∧ w.cell? ⟨p.d, 3, none⟩ = some p.fv ∧
      w.cell? ⟨p.d, 4, none⟩ = some (.pointer (some ⟨p.bb, 0, none⟩)) ∧ w.cell? ⟨p.d, 5, none⟩ = some (.pointer (some ⟨p.tb, 0, none⟩)) :=
  ⟨blk_cell h.obj rfl, blk_cell h.obj rfl, blk_cell h.obj rfl, blk_cell h.obj rfl, blk_cell h.obj rfl, blk_cell h.obj rfl⟩

theorem has_any {w : World} {M : Dom} {d : Nat} {s : DS} (h : DrumAt w M d s) (k : Int) :
    Calls Tryz.prog 51 #[.pointer (some ⟨d, 0, none⟩), .int .i64 k] w fun e w' => e = .returned (.bool (decide (0 ≤ k ∧ k < s.n))) ∧ w = w' := by
  obtain ⟨p, rfl, h⟩ := h
  obtain ⟨-, c1, -⟩ := h.cells
  by_cases h0 : 0 ≤ k
  · go_enter Tryz.func51, Tryz.ntmps51
    go_wp2_with fail
    go_ret
    exact ⟨by simp [h0], rfl⟩
  · go_enter Tryz.func51, Tryz.ntmps51
    go_wp2_with fail
    go_ret
    exact ⟨by simp; omega, rfl⟩

theorem tracks_any {w : World} {M : Dom} {d : Nat} {s : DS} (h : DrumAt w M d s) :
    Calls Tryz.prog 86 #[.pointer (some ⟨d, 0, none⟩)] w fun e w' => e = .returned (.int .i64 s.n) ∧ w = w' := by
  obtain ⟨p, rfl, h⟩ := h
  obtain ⟨-, c1, -⟩ := h.cells
  go_enter Tryz.func86, Tryz.ntmps86
  go_wp2_with fail
  go_ret
  exact ⟨rfl, rfl⟩

theorem broken_any {w : World} {M : Dom} {d : Nat} {s : DS} (h : DrumAt w M d s) :
    Calls Tryz.prog 38 #[.pointer (some ⟨d, 0, none⟩)] w fun e w' => e = .returned (.bool s.broken) ∧ w = w' := by
  obtain ⟨p, rfl, h⟩ := h
  obtain ⟨-, -, -, -, c4, -⟩ := h.cells
  go_enter Tryz.func38, Tryz.ntmps38
  go_wp2_with fail
  refine (raised_o h.flag).mono ?_
  rintro e w1 ⟨rfl, rfl⟩
  go_wp2_with fail
  go_ret
  exact ⟨rfl, rfl⟩

theorem turns_any {w : World} {M : Dom} {d : Nat} {s : DS} (h : DrumAt w M d s) :
    Calls Tryz.prog 34 #[.pointer (some ⟨d, 0, none⟩)] w fun e w' => e = .returned (.int .i64 s.turns) ∧ w = w' := by
  obtain ⟨p, rfl, h⟩ := h
  obtain ⟨-, -, -, -, -, c5⟩ := h.cells
  go_enter Tryz.func34, Tryz.ntmps34
  go_wp2_with fail
  refine (cload_o h.turns).mono ?_
  rintro e w1 ⟨rfl, rfl⟩
  go_wp2_with fail
  go_ret
  exact ⟨rfl, rfl⟩

/-- one more turn: what is behind it -/
def DS.turn (s : DS) : DS :=
  match s.fuse with
  | some 0 => { s with broken := true }
  | some x => if s.broken then { s with fuse := some (x - 1) } else { s with fuse := some (x - 1), turns := more s.turns 1 }
  | none => if s.broken then s else { s with turns := more s.turns 1 }
/-- does it go well? -/
def DS.goes (s : DS) : Bool := !s.turn.broken
/-- the call's answer -/
def DS.code (s : DS) : Int := if s.goes then 0 else 4

/-- the fuse and the flag, and the counter are written; all else is as it was -/
theorem DrumP.put {w w' : World} {M : Dom} {p : DP} {s s' : DS} (h : DrumP w M p s) {F : Nat → Prop} (k : Ext F w w') (hF : ∀ q, F q → M q ∧ ∃ c t, w.heap[q]? = some (.cells c t (0, 0)) ∧ (t = 107 ∨ t = 112 ∨ t = 136))
    (e1 : s'.n = s.n) (e2 : s'.kept = s.kept) (e3 : s'.now = s.now) (e4 : s'.up = s.up) (hf : FuseAt w' M p.fv s'.fuse) (hb : isFlag w' p.bb 107 s'.broken) (ht : isInt w' p.tb 112 s'.turns) (t0 : 0 ≤ s'.turns) (t1 : s'.turns ≤ 4611686018427387904) : DrumP w' M p s' := by
  have hM : ∀ q, F q → M q := fun q hq => (hF q hq).1
  have hne : ∀ {b : Nat} {c : Array Value} {t : TypeId}, w.heap[b]? = some (.cells c t (0, 0)) → t ≠ 107 → t ≠ 112 → t ≠ 136 → ¬ F b := by
    intro b c t hb h1 h2 h3 hq
    obtain ⟨c', t', hc, ht⟩ := (hF b hq).2
    rw [hb] at hc
    cases hc
    rcases ht with ht | ht | ht
    · exact h1 ht
    · exact h2 ht
    · exact h3 ht
  obtain ⟨ck, hk⟩ := h.kept.blk
  obtain ⟨cn, hn⟩ := h.now.blk
  refine ⟨?_, h.md, h.mb, h.mt, ?_, ?_, h.apart, ?_, hf, hb, ht, t0, t1, ?_, ?_, ?_, fun q hq => Nat.lt_of_lt_of_le (h.ml q hq) k.size, fun q hq => Nat.lt_of_lt_of_le (h.xl q hq) k.size⟩
  · rw [e1]; exact k.blk (hne h.obj (by decide) (by decide) (by decide)) h.obj
  · rw [e1, e2]; exact h.kept.ext k hM (hne hk (by decide) (by decide) (by decide))
  · rw [e1, e3]; exact h.now.ext k hM (hne hn (by decide) (by decide) (by decide))
  · rw [e1, e4]
    refine h.up.ext k hM (fun q hq hf => ?_)
    obtain ⟨c', t', hc, ht⟩ := (hF q hf).2
    refine absurd rfl (h.up.ne hq hc ?_)
    rcases ht with rfl | rfl | rfl <;> decide
  · rw [e1]; exact h.n0
  · rw [e1]; exact h.n1
  · rw [e4]; exact h.u1

theorem more_bd {x : Int} (h0 : 0 ≤ x) (h1 : x ≤ 4611686018427387904) : 0 ≤ more x 1 ∧ more x 1 ≤ 4611686018427387904 := by
  unfold more; omega

theorem dturn_any {w : World} {M : Dom} {d : Nat} {s : DS} (h : DrumAt w M d s) :
    Calls Tryz.prog 52 #[.pointer (some ⟨d, 0, none⟩)] w fun e w' => e = .returned (.int .i64 s.code) ∧ DrumAt w' M d s.turn ∧ Step M w M w' := by
  obtain ⟨p, rfl, h⟩ := h
  obtain ⟨-, -, -, c3, c4, c5⟩ := h.cells
  obtain ⟨n, kept, now, up, fuse, broken, turns⟩ := s
  have HT := hid h.t0
  have HT1 := hid h.t1
  have more0 := more_bd h.t0 h.t1
  have hfl := h.flag
  have htu := h.turns
  simp only at hfl htu more0 HT HT1
  have HM := hid more0
  have H := hid h
  have HF := h.fuse
  cases fuse with
  | none =>
    have hfv : p.fv = .pointer none := HF
    have HFV := hid hfv
    rw [hfv] at c3
    clear h hfv HF more0
    go_enter Tryz.func52, Tryz.ntmps52
    go_wp2_with fail
    refine (broken_any ⟨p, rfl, H.out⟩).mono ?_
    rintro e w1 ⟨rfl, rfl⟩
    cases broken with
    | true =>
      go_wp2_with fail
      go_ret
      exact ⟨rfl, ⟨p, rfl, H.out⟩, Step.refl _ _⟩
    | false =>
      go_wp2_with fail
      refine (add_o htu HT.out HT1.out 1).mono ?_
      rintro e w1 ⟨rfl, h1, X1⟩
      go_wp2_with fail
      go_ret
      refine ⟨rfl, ⟨p, rfl, H.out.put X1 (fun q hq => by subst hq; exact ⟨H.out.mt, _, _, H.out.turns, by simp⟩) rfl rfl rfl rfl (by exact HFV.out) ?_ h1 HM.out.1 HM.out.2⟩, Step.of_ext X1 (fun q hq => by rw [hq]; exact H.out.mt)⟩
      exact X1.blk (blk_ne H.out.flag H.out.turns (by decide)) hfl
  | some x =>
    obtain ⟨b, all, hfv, hMb, hb, hx0, hx1⟩ := HF
    have HFV := hid hfv
    rw [hfv] at c3
    have bn : b ≠ p.bb := blk_ne hb hfl (by decide)
    have tn : b ≠ p.tb := blk_ne hb htu (by decide)
    have dn : p.d ≠ b := blk_ne h.obj hb (by decide)
    have BN := hid bn
    have TN := hid tn
    have BT := hid (show p.bb ≠ p.tb from blk_ne hfl htu (by decide))
    have DN := hid dn
    have DT := hid (show p.d ≠ p.bb from blk_ne h.obj hfl (by decide))
    have HMB := hid hMb
    have H0 := hid hx0
    have H1 := hid hx1
    clear h hfv more0 bn tn dn
    have TK := take_o hb hx0 hx1 1
    by_cases hx : x = 0
    · subst hx
      have e0 : decide ((0 : Int) ≤ 1 ∧ (1 : Int) ≤ 0) = false := by decide
      have e1 : left 0 1 = 0 := by decide
      rw [e0, e1] at TK
      clear e0 e1
      go_enter Tryz.func52, Tryz.ntmps52
      go_wp2_with fail
      refine TK.mono ?_
      rintro e w1 ⟨rfl, b1, X1⟩
      have c4' := X1.cell DN.out c4
      have f1 := X1.blk (Ne.symm BN.out) hfl
      have t1 := X1.blk (Ne.symm TN.out) htu
      go_wp2_with fail
      refine (raise_o f1).mono ?_
      rintro e w2 ⟨rfl, f2, X2⟩
      have b2 := X2.blk BN.out b1
      have t2 := X2.blk (Ne.symm BT.out) t1
      have XX : Ext (fun q => q = b ∨ q = p.bb) w w2 := (X1.mono (fun _ _ h => .inl h)).trans X2 (fun _ _ h => .inr h)
      have D2 : DrumP w2 M p ⟨n, kept, now, up, some 0, true, turns⟩ := H.out.put XX (fun q hq => by
        rcases hq with rfl | rfl
        · exact ⟨HMB.out, _, _, hb, by simp⟩
        · exact ⟨H.out.mb, _, _, hfl, by simp⟩) rfl rfl rfl rfl ⟨b, all, HFV.out, HMB.out, b2, by omega, by omega⟩ f2 t2 HT.out HT1.out
      have D2 := hid D2
      go_wp2_with fail
      refine (broken_any ⟨p, rfl, D2.out⟩).mono ?_
      rintro e w3 ⟨rfl, rfl⟩
      go_wp2_with fail
      go_ret
      exact ⟨rfl, ⟨p, rfl, D2.out⟩, Step.of_ext XX (fun q hq => by
        rcases hq with rfl | rfl
        · exact HMB.out
        · exact H.out.mb)⟩
    · have e0 : decide ((0 : Int) ≤ 1 ∧ (1 : Int) ≤ x) = true := by simp; omega
      have e1 : left x 1 = x - 1 := by unfold left; rw [if_pos (by omega)]
      rw [e0, e1] at TK
      have HX := hid hx
      clear e0 e1 hx
      go_enter Tryz.func52, Tryz.ntmps52
      go_wp2_with fail
      refine TK.mono ?_
      rintro e w1 ⟨rfl, b1, X1⟩
      have c5' := X1.cell DN.out c5
      have f1 := X1.blk (Ne.symm BN.out) hfl
      have t1 := X1.blk (Ne.symm TN.out) htu
      have D1 : DrumP w1 M p ⟨n, kept, now, up, some (x - 1), broken, turns⟩ := H.out.put X1 (fun q hq => by
        subst hq
        exact ⟨HMB.out, _, _, hb, by simp⟩) rfl rfl rfl rfl ⟨b, all, HFV.out, HMB.out, b1, by have := HX.out; have := H0.out; omega, by have := H1.out; omega⟩ f1 t1 HT.out HT1.out
      have D1 := hid D1
      have S1 : Step M w M w1 := Step.of_ext X1 (fun q hq => by
        subst hq
        exact HMB.out)
      have HT2 : (DS.turn ⟨n, kept, now, up, some x, broken, turns⟩) = if broken then ⟨n, kept, now, up, some (x - 1), broken, turns⟩ else ⟨n, kept, now, up, some (x - 1), broken, more turns 1⟩ := by
        unfold DS.turn
        have := HX.out
        split
        · rename_i h; simp at h; omega
        · rename_i h; simp at h; subst h; rfl
        · rename_i h; simp at h
      have HT3 := hid HT2
      clear HT2
      go_wp2_with fail
      refine (broken_any ⟨p, rfl, D1.out⟩).mono ?_
      rintro e w2 ⟨rfl, rfl⟩
      cases broken with
      | true =>
        go_wp2_with fail
        go_ret
        refine ⟨?_, by rw [HT3.out]; exact ⟨p, rfl, D1.out⟩, S1⟩
        unfold DS.code DS.goes
        rw [HT3.out]
        rfl
      | false =>
        go_wp2_with fail
        refine (add_o t1 HT.out HT1.out 1).mono ?_
        rintro e w2 ⟨rfl, h2, X2⟩
        go_wp2_with fail
        go_ret
        refine ⟨?_, ?_, S1.trans (Step.of_ext X2 (fun q hq => by rw [hq]; exact H.out.mt))⟩
        · unfold DS.code DS.goes
          rw [HT3.out]
          rfl
        · rw [HT3.out]
          refine ⟨p, rfl, D1.out.put X2 (fun q hq => by subst hq; exact ⟨H.out.mt, _, _, t1, by simp⟩) rfl rfl rfl rfl ?_ (X2.blk BT.out f1) h2 HM.out.1 HM.out.2⟩
          exact D1.out.fuse.ext X2 (fun b' hb' => by
            have e := HFV.out.symm.trans hb'
            cases e
            exact TN.out)

end Go.Proofs.YtleoelhhndeheaaGreat
