/- VaultStays: found, opened while the drum may break -/
import Derived.Test.YtleoelhhndeheaaGreatVStA
open Go Go.RowKit
open Go.Maps (Keyed has)
namespace Go.Proofs.YtleoelhhndeheaaGreat

theorem Good.openN {L : LS} {s : DS} {P : List (List Ent)} (g : Good L s P) (hl : L.lost = false) (hr : L.round < 4294950000) : ∃ s', s.openL = (0, L.next, s') ∧ Full L.next s' [] ∧ s'.n = s.n ∧ s'.kept = s'.now ∧ s'.up = [] ∧ (∀ k, k < L.H s → view L.next s' k = view L s k) ∧ s'.now (L.round % 2).toNat = coverT L.round L.leaves := by
  have ho := g.opened hl
  have h3 := g.r
  have hlv := g.ok.l
  have g0 : Good { L with used := 0, last := 0 } s P := ⟨g.up, g.wf, g.ok.to rfl rfl g.ok.r ⟨Int.le_refl _, by show (0 : Int) ≤ L.leaves; have := g.ok.l; omega⟩ ⟨Int.le_refl _, by show (0 : Int) < _; omega⟩ (.inl rfl), g.r, g.c, g.o, g.lv, g.p, g.tk⟩
  obtain ⟨s', h1, h2⟩ := goHome_up g0.up g0.ok
  obtain ⟨g1, g2⟩ := g0.homeTo h2 hr
  refine ⟨s', ?_, ⟨g1, rfl, rfl, hl⟩, h2.n, h2.kept, h2.none, g2, ?_⟩
  · rw [openL_of g.up.broken (by rw [g.read]; show L.round ≠ 0; omega), ho]
    exact h1
  · rw [h2.now, if_neg (by show ¬ ((L.round % 2).toNat = ((L.round + 1) % 2).toNat); omega), if_neg (by show ¬ (2 + L.leaves.toNat ≤ (L.round % 2).toNat ∧ _); omega)]
    exact g.c
theorem openUX {w : World} {M : Dom} {d n : Nat} {lv : Int} {N : Nat} {V : Nat → List Int} {s : DS} {L : LS} {P : List (List Ent)} (hd : DrumAt w M d s) (g : Good L s P) (hlo : L.lost = false) (hn : s.n = n) (hlv : L.leaves = lv) (hu : s.up.length ≤ 10000 * N) (hr : L.round ≤ 2 + N) (hv : ∀ k, k < L.H s → view L s k = V k) (hN : N ≤ 239) :
    Calls Tryz.prog 48 #[.pointer (some ⟨d, 0, none⟩)] w fun e w' => ∃ M' B' l' mb' s' L', e = .returned (.tuple #[.pointer (some ⟨l', 0, none⟩), .int .i64 0]) ∧ LStep M none' w M' B' w' ∧ LiveX w' M' B' d l' mb' n lv (N + 1) V s' L' := by
  have hl := g.ok.l
  have hg := g.r
  refine (open_any hd (by omega) g.ok.n1 (by omega)).mono ?_
  obtain ⟨s', h1, h2, h3, h4, h5, h6, h7⟩ := g.openN hlo (by omega)
  rintro e w' (⟨-, M', B', l', mb', rfl, SY, LT⟩ | ⟨h, -⟩)
  · rw [h1] at SY
    have e1 : L.next.H s' = L.H s := by unfold LS.H; rw [h3]; rfl
    refine ⟨M', B', l', mb', _, _, rfl, LT, ⟨SY, ⟨[], h2⟩, h3.trans hn, hlv, by show s'.up.length ≤ _; rw [h5]; exact Nat.zero_le _, by show L.round + 1 ≤ _; omega, by show (0 : Int) ≤ _; omega, fun k hk => by
      have hk2 : k < L.H s := by rw [← e1]; exact hk
      show view L.next s' k = _
      rw [h6 k hk2, hv k hk2]⟩, ⟨h4, h5⟩, h2, ?_⟩
    left
    show num (cut (s'.now ((L.round + 1 + 1) % 2).toNat) 80 4) < L.round + 1
    rw [show ((L.round + 1 + 1) % 2).toNat = (L.round % 2).toNat by omega, h7, coverT_tail, num_lay4 ⟨by omega, by omega⟩]
    omega
  · rw [h1] at h
    exact absurd rfl h
/-- a ledger's opening that gives a ledger of a known view, as a vault's -/
theorem openVOf {w : World} {M : Dom} {d n : Nat} {lv : Int} {N : Nat} {V : Nat → List Int} (OP : Calls Tryz.prog 48 #[.pointer (some ⟨d, 0, none⟩)] w fun e w' => ∃ M' B' l' mb' s' L', e = .returned (.tuple #[.pointer (some ⟨l', 0, none⟩), .int .i64 0]) ∧ LStep M none' w M' B' w' ∧ LiveX w' M' B' d l' mb' n lv (N + 1) V s' L') (hN : N ≤ 239) (hH : 2 ≤ homes n lv ∧ homes n lv ≤ 600) {R : Rcs} (ok : RcsOk R (homes n lv)) (hV : ∀ k z, laidT R k = some z → V k.toNat = z) :
    Calls Tryz.prog 18 #[.pointer (some ⟨d, 0, none⟩)] w fun e w' => ∃ M' B' C' l mb v s L, e = .returned (.tuple #[.pointer (some ⟨v, 0, none⟩), .int .i64 0]) ∧ LStep M none' w M' (fun q => B' q ∨ C' q) w' ∧ VAlv w' M' B' C' d l mb v n lv (N + 1) [R.data] V s L R R := by
  have OP2 := OP.mono (R' := fun e w' => ∃ M' B' l mb s L, e = .returned (.tuple #[.pointer (some ⟨l, 0, none⟩), .int .i64 0]) ∧ LStep M none' w M' B' w' ∧ Rd w' M' B' d l mb s L (homes n lv) ∧ (loadV (L.lookZ s) (homes n lv) = some R ∧ ∀ w' M' B' l mb, Sys w' M' B' d l mb s L → Sta w' M' B' d l mb n lv (N + 1) (AT (homes n lv) [R.data]) V s L)) (fun e w' => by
    rintro ⟨M', B', l', mb', s', L', rfl, T, X⟩
    refine ⟨M', B', l', mb', s', L', rfl, T, X.live.rd, loadV_view X.live ⟨hH.1, by omega⟩ ok hV, fun w' M' B' l mb SY => ?_⟩
    have X2 : LiveX w' M' B' d l mb n lv (N + 1) V s' L' := ⟨⟨SY, X.live.full, X.live.n, X.live.leaves, X.live.up, X.live.round, X.live.last, X.live.v⟩, X.q, X.full, X.x⟩
    exact X2.sta (by omega) ⟨R, ok, hV, List.mem_singleton.2 rfl⟩)
  refine (openV_any (P := fun _ _ _ _ s L => loadV (L.lookZ s) (homes n lv) = some R ∧ ∀ w' M' B' l mb, Sys w' M' B' d l mb s L → Sta w' M' B' d l mb n lv (N + 1) (AT (homes n lv) [R.data]) V s L) (fun _ _ _ _ _ _ _ h => h) OP2).mono ?_
  rintro e w' ⟨M', B', C', l, mb, s', L', T, ⟨hld, hst⟩, ⟨R', v, hl, rfl, VS, -⟩ | ⟨hl, -⟩⟩
  · rw [hld] at hl
    obtain rfl := Option.some.inj hl
    exact ⟨M', B', C', l, mb, v, s', L', rfl, T, VS, hst _ _ _ _ _ VS.sys, ok, ok, hH, hV⟩
  · rw [hld] at hl; cases hl
theorem openVUX {w : World} {M : Dom} {d n : Nat} {lv : Int} {N : Nat} {V : Nat → List Int} {s : DS} {L : LS} {P : List (List Ent)} (hd : DrumAt w M d s) (g : Good L s P) (hlo : L.lost = false) (hn : s.n = n) (hlv : L.leaves = lv) (hu : s.up.length ≤ 10000 * N) (hr : L.round ≤ 2 + N) (hv : ∀ k, k < L.H s → view L s k = V k) (hN : N ≤ 239)
    (hH : 2 ≤ homes n lv ∧ homes n lv ≤ 600) {R : Rcs} (ok : RcsOk R (homes n lv)) (hV : ∀ k z, laidT R k = some z → V k.toNat = z) :
    Calls Tryz.prog 18 #[.pointer (some ⟨d, 0, none⟩)] w fun e w' => ∃ M' B' C' l mb v s L, e = .returned (.tuple #[.pointer (some ⟨v, 0, none⟩), .int .i64 0]) ∧ LStep M none' w M' (fun q => B' q ∨ C' q) w' ∧ VAlv w' M' B' C' d l mb v n lv (N + 1) [R.data] V s L R R :=
  openVOf (openUX hd g hlo hn hlv hu hr hv hN) hN hH ok hV
theorem found6x_any (n : Nat) (lv : Int) (w : World) (h1 : 10 ≤ n) (h2 : n ≤ 4096) (hm : mayC 1 lv n = true) (hH : homes n lv ≤ 600) :
    Calls Tryz.prog 14 #[.int .i64 (n : Int), .int .i64 lv] w fun e w' => ∃ M B C d l mb v s L V, e = .returned (.tuple #[.pointer (some ⟨v, 0, none⟩), .pointer (some ⟨d, 0, none⟩)]) ∧ VAlv w' M B C d l mb v n lv 3 [noRcs.data] V s L noRcs noRcs ∧ Since w w' M (fun q => B q ∨ C q) := by
  have hlv : 5 ≤ lv ∧ lv + 4 ≤ n := by unfold mayC at hm; simp at hm; omega
  have hH2 : 2 ≤ homes n lv := by unfold homes; omega
  go_enter Tryz.func14, Tryz.ntmps14
  go_wp2_with fail
  refine (newn_any n w h1 h2).mono ?_
  rintro e w1 ⟨d, M, rfl, D1, hM, B1⟩
  have FO := foundV_any D1 ⟨h1, h2⟩ hm
  have HB1 := hid B1
  have HM := hid hM
  clear D1 B1 hM
  go_wp2_with fail
  refine FO.mono ?_
  rintro e w2 ⟨rfl, M2, B2, l, mb, s, L, V, T2, LV, Q, hV0⟩
  clear FO
  obtain ⟨P, f⟩ := LV.full
  have OP := openVUX LV.sys.drum f.g f.lost LV.n LV.leaves LV.up LV.round LV.v (by omega) ⟨hH2, hH⟩ (RcsOk.none _) (rcsNone_view hV0)
  have T2H := hid T2
  clear LV T2 Q hV0 f
  go_wp2_with fail
  refine OP.mono ?_
  rintro e w3 ⟨M3, B3, C3, l3, mb3, v3, s3, L3, rfl, T3, VL3⟩
  have VL3H := hid VL3
  have T3H := hid (T2H.out.forget.trans T3)
  clear OP VL3 T3
  go_wp2_with fail
  go_ret2
  refine ⟨M3, B3, C3, d, l3, mb3, v3, s3, L3, V, rfl, VL3H.out, ?_⟩
  exact (⟨HB1.out, fun q hq => hq.elim (HM.out q) (fun h => h.elim)⟩ : Since w w1 M none').lstep T3H.out


set_option maxRecDepth 100000 in
set_option maxHeartbeats 8000000 in
/-- an opening that may break -/
theorem openVF {w : World} {M : Dom} {d n : Nat} {lv : Int} {N : Nat} {V : Nat → List Int} (h : Fel w M d n lv N V) (hN : N ≤ 239) :
    Calls Tryz.prog 18 #[.pointer (some ⟨d, 0, none⟩)] w fun e w' => (∃ u, e = .returned u) ∧ ∃ M', Saf w' M' d n lv (N + 1) (fun V' => V' = V) ∧ LStep M none' w M' none' w' := by
  obtain ⟨s, u, r, P, hd, m, R, hx, hn, hr, rfl, hup⟩ := h
  have hl := R.l
  have hrb := R.rb
  have hun := m.n
  have e0 : openedL s = openedL u := by rw [m.eq]; rfl
  have er : readC s = (r, lv) := by rw [← R.read, m.eq]; rfl
  have eo : s.openL = (openedL u).goHome s := by rw [openL_of m.br (by rw [er]; show r ≠ 0; have := R.rb; omega), e0]
  have ho := R.opened
  have ok := R.okL
  rw [ho] at eo ok
  have hn2 : (s.openL).2.2.n = s.n := by rw [eo]; exact goHome_n _ _
  rcases goHomeF R (by omega) hx rfl rfl rfl ok m with ⟨s', u', g1, g2, g3⟩ | ⟨L', s', g1, g2, g3⟩
  · have al := R.alv (A := fun V' => V' = seen u lv P) (V := seen u lv P) (by omega) rfl rfl rfl rfl ok g3 g2 rfl (fun _ _ => rfl)
    rw [g1] at eo
    rw [eo] at hn2
    have saf : Safe s' lv (2 + ((N + 1 : Nat) : Int)) (fun V' => V' = seen u lv P) := al.safe.mono (by show r + 1 ≤ _; omega) (fun _ h => h)
    have oks := al.ok
    obtain ⟨Ln, hLn⟩ : ∃ Ln, LS.next ⟨r, lv, 0, 0, tknP P, false⟩ = Ln := ⟨_, rfl⟩
    rw [hLn] at eo oks
    have htk : Ln.taken = fun _ => none := by rw [← hLn]; rfl
    have hll : Ln.leaves = lv := by rw [← hLn]; rfl
    have hwu := g3.wf ok R.wf
    have hnw : s'.now = u'.now := by rw [g2.eq]
    have hnn : u'.n = s'.n := g2.n
    have OP := (open_any hd (by omega) (by have := R.n; omega) (by rw [hup]; exact Nat.succ_pos _)).mono (R' := fun e w' => ∃ M' B' l mb s3 L3, e = .returned (.tuple #[.pointer (some ⟨l, 0, none⟩), .int .i64 0]) ∧ LStep M none' w M' B' w' ∧ Rd w' M' B' d l mb s3 L3 (Ln.H s') ∧ (s3 = s' ∧ L3 = Ln)) (by
      rintro e w' (⟨-, M', B', l', mb', rfl, SY, LT⟩ | ⟨hx, -⟩)
      · rw [eo] at SY
        refine ⟨M', B', l', mb', s', Ln, rfl, LT, ⟨SY, oks.1, oks.2.1, oks.2.2.1, rfl, fun k hk => ?_⟩, rfl, rfl⟩
        have hH : ((Ln.H s' : Nat) : Int) = (s'.n : Int) - (2 + Ln.leaves) := by have := oks.1.l; unfold LS.H; omega
        have hkk : Ln.lookZ s' k = s'.now (2 + Ln.leaves + k).toNat := by
          unfold LS.lookZ LS.lookC
          rw [if_pos hk, oks.2.1, oks.2.2.1, htk]
          rfl
        rw [hkk, hnw]
        exact hwu _ (by rw [hnn]; omega)
      · rw [eo] at hx; exact absurd rfl hx)
    refine (openV_any (P := fun _ _ _ _ s3 L3 => s3 = s' ∧ L3 = Ln) (fun _ _ _ _ _ _ _ h => h) OP).mono ?_
    rintro e w' ⟨M', B', C', l, mb, s3, L3, T, ⟨rfl, rfl⟩, ⟨R', v, -, rfl, VS, -⟩ | ⟨-, rfl, SY⟩⟩
    · exact ⟨⟨_, rfl⟩, M', ⟨_, VS.sys.drum, hn2.trans hn, saf⟩, T.forget⟩
    · exact ⟨⟨_, rfl⟩, M', ⟨_, SY.drum, hn2.trans hn, saf⟩, T.forget⟩
  · rw [g1] at eo
    rw [eo] at hn2
    have saf : Safe s' lv (2 + ((N + 1 : Nat) : Int)) (fun V' => V' = seen u lv P) := g3.mono (by omega) (fun _ h => h)
    have OP := (open_any hd (by omega) (by have := R.n; omega) (by rw [hup]; exact Nat.succ_pos _)).mono (R' := fun e w' => e = .returned (.tuple #[.pointer none, .int .i64 4]) ∧ ∃ M', DrumAt w' M' d s' ∧ LStep M none' w M' none' w') (by
      rintro e w' (⟨hx, -⟩ | ⟨-, M', rfl, D, LT⟩)
      · rw [eo] at hx; exact absurd hx (show ¬ ((4 : Int) = 0) by decide)
      · rw [eo] at D ⊢
        exact ⟨rfl, M', D, LT⟩)
    have SF := hid saf
    have HN2 := hid hn2
    have HNN := hid hn
    clear saf eo hd m R hx hl e0 er ho ok g1 g2 g3 hrb hun hup hn2 hn hr
    go_enter Tryz.func18, Tryz.ntmps18
    go_wp2_with fail
    refine OP.mono ?_
    rintro e w1 ⟨rfl, M1, D1, T1⟩
    have HD := hid D1
    have HT := hid T1
    clear D1 T1 OP
    go_wp2_with fail
    go_ret2
    exact ⟨⟨_, rfl⟩, M1, ⟨_, HD.out, HN2.out.trans HNN.out, SF.out⟩, HT.out⟩

end Go.Proofs.YtleoelhhndeheaaGreat
