/- VaultStays: a vault on a drum that may break -/
import Derived.Test.YtleoelhhndeheaaGreatVKeepG
import Derived.Test.YtleoelhhndeheaaGreatStayV
open Go Go.RowKit
open Go.Maps (Keyed has)
namespace Go.Proofs.YtleoelhhndeheaaGreat

/-- the home tracks are one of these records -/
def AT (H : Nat) (T : List DT) (V : Nat → List Int) : Prop := ∃ R : Rcs, RcsOk R H ∧ (∀ k z, laidT R k = some z → V k.toNat = z) ∧ R.data ∈ T
theorem AT.mono {H : Nat} {T T' : List DT} {V : Nat → List Int} (h : AT H T V) (k : ∀ D ∈ T, D ∈ T') : AT H T' V := by
  obtain ⟨R, h1, h2, h3⟩ := h
  exact ⟨R, h1, h2, k _ h3⟩
theorem AT.congr {H : Nat} {T : List DT} {V V' : Nat → List Int} (h : AT H T V) (h0 : 0 < H) (k : ∀ j, j < H → V' j = V j) : AT H T V' := by
  obtain ⟨R, h1, h2, h3⟩ := h
  refine ⟨R, h1, fun j z hz => ?_, h3⟩
  have hj := laidT_rng h1 h0 (show (laidT R j).isSome by rw [hz]; rfl)
  rw [k _ (by omega)]
  exact h2 j z hz

/-- a vault that goes, on a drum that may break -/
structure VAlv (w : World) (M : Dom) (B C : Nat → Prop) (d l mb v n : Nat) (lv : Int) (N : Nat) (T : List DT) (V : Nat → List Int) (s : DS) (L : LS) (now kept : Rcs) : Prop where
  vs : VSys w M B C d l mb v s L now kept
  st : Sta w M B d l mb n lv N (AT (homes n lv) T) V s L
  okn : RcsOk now (homes n lv)
  okk : RcsOk kept (homes n lv)
  hH : 2 ≤ homes n lv ∧ homes n lv ≤ 600
  view : ∀ k z, laidT kept k = some z → V k.toNat = z
section
variable {w : World} {M : Dom} {B C : Nat → Prop} {d l mb v n : Nat} {lv : Int} {N : Nat} {T : List DT} {V : Nat → List Int} {s : DS} {L : LS} {now kept : Rcs}
theorem VAlv.below {w' : World} (h : VAlv w M B C d l mb v n lv N T V s L now kept) (k : Below w.heap.size w w') : VAlv w' M B C d l mb v n lv N T V s L now kept := ⟨h.vs.below k, h.st.below k, h.okn, h.okk, h.hH, h.view⟩
theorem VAlv.lost (h : VAlv w M B C d l mb v n lv N T V s L now kept) : L.lost = false := h.st.alv.ok.2.1
theorem VAlv.H (h : VAlv w M B C d l mb v n lv N T V s L now kept) : L.H s = homes n lv := by unfold LS.H homes; rw [h.st.n, h.st.leaves]
theorem VAlv.le {N' : Nat} (h : VAlv w M B C d l mb v n lv N T V s L now kept) (hN : N ≤ N') : VAlv w M B C d l mb v n lv N' T V s L now kept := ⟨h.vs, h.st.mono hN (fun _ h => h), h.okn, h.okk, h.hH, h.view⟩
theorem Sta.sysTo {w' : World} {M' : Dom} {B' : Nat → Prop} {mb' : Nat} {A : (Nat → List Int) → Prop} (h : Sta w M B d l mb n lv N A V s L) (k : Sys w' M' B' d l mb' s L) : Sta w' M' B' d l mb' n lv N A V s L := ⟨k, h.alv, h.a0, h.n, h.leaves, h.up, h.round, h.last⟩
theorem VAlv.own {w' : World} {M' : Dom} {C' : Nat → Prop} {now' : Rcs} (h : VAlv w M B C d l mb v n lv N T V s L now kept) (k : VSys w' M' B C' d l mb v s L now' kept) (okn : RcsOk now' (homes n lv)) : VAlv w' M' B C' d l mb v n lv N T V s L now' kept := ⟨k, h.st.sysTo k.sys, okn, h.okk, h.hH, h.view⟩
theorem putA (h : VAlv w M B C d l mb v n lv N T V s L now kept) (id : Int) (hid' : -9223372036854775808 ≤ id ∧ id ≤ 9223372036854775807) (a : Option Addr) (len cap : Nat) (bs : List Int) (hr : Row w a (B8 bs)) (hbl : bs.length = len) (hlen : len ≤ 1000000) (hn : a = none → len = 0) (hby : IsBytes bs) :
    Calls Tryz.prog 15 #[.pointer (some ⟨v, 0, none⟩), .int .i64 id, .slice a len cap] w fun e w' => e = .returned (.int .i64 (putC now (homes n lv) false id len)) ∧ VAlv w' M B C d l mb v n lv N T V s L (now.putted (homes n lv) false id bs) kept ∧ LStep M (fun q => B q ∨ C q) w M (fun q => B q ∨ C q) w' := by
  refine (putV_any h.vs h.st.alv.ok.1.lv h.H h.okn id hid' a len cap bs hr hbl hlen hn hby).mono ?_
  rintro e w' ⟨h1, h2, h3⟩
  rw [h.lost] at h1 h2
  exact ⟨by rw [h1, hbl], h.own h2 (putted_ok h.okn (by have := h.hH; omega) (by have := h.hH; omega) hby), h3.vault (B := B)⟩
theorem dropA (h : VAlv w M B C d l mb v n lv N T V s L now kept) (id : Int) (hid' : -9223372036854775808 ≤ id ∧ id ≤ 9223372036854775807) :
    Calls Tryz.prog 28 #[.pointer (some ⟨v, 0, none⟩), .int .i64 id] w fun e w' => e = .returned (.bool (now id).isSome) ∧ VAlv w' M B C d l mb v n lv N T V s L (now.drop id) kept ∧ LStep M (fun q => B q ∨ C q) w M (fun q => B q ∨ C q) w' := by
  refine (dropV_any h.vs id hid').mono ?_
  rintro e w' ⟨h1, h2, h3⟩
  exact ⟨h1, h.own h2 (h.okn.drop id), h3.vault (B := B)⟩
theorem undoA (h : VAlv w M B C d l mb v n lv N T V s L now kept) :
    Calls Tryz.prog 30 #[.pointer (some ⟨v, 0, none⟩)] w fun e w' => e = .returned (.tuple #[]) ∧ ∃ M' C', VAlv w' M' B C' d l mb v n lv N T V s L kept kept ∧ LStep M (fun q => B q ∨ C q) w M' (fun q => B q ∨ C' q) w' := by
  refine (undoV_any h.vs h.okk).mono ?_
  rintro e w' ⟨h1, M', C', h2, h3⟩
  exact ⟨h1, M', C', h.own h2 h.okk, h3.vault (B := B)⟩
theorem breakVA (h : VAlv w M B C d l mb v n lv N T V s L now kept) (a : Int) :
    Calls Tryz.prog 37 #[.pointer (some ⟨d, 0, none⟩), .int .i64 a] w fun e w' => e = .returned (.tuple #[]) ∧ ∃ M' s', VAlv w' M' B C d l mb v n lv N T V s' L now kept ∧ LStep M (fun q => B q ∨ C q) w M' (fun q => B q ∨ C q) w' := by
  refine (break_any h.vs.sys.drum a).mono ?_
  rintro e w' ⟨rfl, M', D, S⟩
  have k := LStep.of_step (B := B) S
  have k2 := h.vs.lstep (h.vs.sys.step D S) k
  exact ⟨rfl, M', _, ⟨k2, ⟨k2.sys, h.st.alv.brk a, h.st.a0, h.st.n, h.st.leaves, h.st.up, h.st.round, h.st.last⟩, h.okn, h.okk, h.hH, h.view⟩, k.vault (C := C)⟩
theorem settleVA (h : VAlv w M B C d l mb v n lv N T V s L now kept) :
    Calls Tryz.prog 31 #[.pointer (some ⟨v, 0, none⟩)] w fun e w' => ∃ M' B', LStep M (fun q => B q ∨ C q) w M' (fun q => B' q ∨ C q) w' ∧
      ((e = .returned (.int .i64 0) ∧ ∃ mb' s', VAlv w' M' B' C d l mb' v n lv N [kept.data] V s' L now kept) ∨ (e = .returned (.int .i64 4) ∧ Brok w' M' d n lv N (AT (homes n lv) T))) := by
  have hA : AT (homes n lv) [kept.data] V := ⟨kept, h.okk, h.view, List.mem_singleton.2 rfl⟩
  refine (settleV_any h.vs (Q := fun c w' => ∃ M' B', LStep M B w M' B' w' ∧ ((c = 0 ∧ ∃ mb' s', Sta w' M' B' d l mb' n lv N (AT (homes n lv) [kept.data]) V s' L) ∨ (c = 4 ∧ Brok w' M' d n lv N (AT (homes n lv) T)))) ((settleA h.st hA).mono ?_)).mono ?_
  · rintro e w' ⟨M', B', T', ⟨rfl, mb', s', S'⟩ | ⟨rfl, b⟩⟩
    · exact ⟨0, rfl, M', B', T', .inl ⟨rfl, mb', s', S'⟩⟩
    · exact ⟨4, rfl, M', B', T', .inr ⟨rfl, b⟩⟩
  · rintro e w' ⟨c, rfl, M', B', T', ⟨rfl, mb', s', S'⟩ | ⟨rfl, b⟩⟩
    · exact ⟨M', B', T'.vault (C := C), .inl ⟨rfl, mb', s', h.vs.lstep S'.sys T', S', h.okn, h.okk, h.hH, h.view⟩⟩
    · exact ⟨M', B', T'.vault (C := C), .inr ⟨rfl, b⟩⟩
theorem keepA (h : VAlv w M B C d l mb v n lv N T V s L now kept) (hN : N ≤ 240) :
    Calls Tryz.prog 17 #[.pointer (some ⟨v, 0, none⟩)] w fun e w' => ∃ M' B' C', LStep M (fun q => B q ∨ C q) w M' (fun q => B' q ∨ C' q) w' ∧
      ((e = .returned (.int .i64 0) ∧ ∃ mb' s' L' V', VAlv w' M' B' C' d l mb' v n lv (N + 1) (T ++ [now.data]) V' s' L' now now) ∨ (e = .returned (.int .i64 5) ∧ ∃ mb', VAlv w' M' B' C' d l mb' v n lv N T V s L kept kept) ∨ (e = .returned (.int .i64 4) ∧ Brok w' M' d n lv (N + 1) (AT (homes n lv) (T ++ [now.data])))) := by
  obtain ⟨ok, hlo, -, hrd⟩ := h.st.alv.ok
  have hr := h.st.round
  have hu := h.st.up
  have hla := h.st.last
  have hH := h.hH
  have hmn : ∀ V', AT (homes n lv) T V' → AT (homes n lv) (T ++ [now.data]) V' := fun V' hV => hV.mono (fun D hD => List.mem_append_left _ hD)
  have kp := LS.write_keep (el := turnedL kept now) ok (turned_bytes h.okn) (by omega) (by omega)
  have hA1 : AT (homes n lv) (T ++ [now.data]) (fun k => over (turnedL kept now) k (V k)) := ⟨now, h.okn, over_turned h.okn ⟨hH.1, by omega⟩ h.view, List.mem_append_right _ (List.mem_singleton.2 rfl)⟩
  refine (keepG h.vs hlo ok (by omega) (by omega) hH h.okn h.okk).mono ?_
  rintro e w' (⟨hnil, rfl, k⟩ | ⟨hne, M', B', C', mb', T', rfl, hc⟩)
  · have enk := turned_nil h.okk h.okn ⟨hH.1, by omega⟩ hnil
    subst enk
    have h2 := h.below k
    refine ⟨M, B, C, LStep.of_below k, .inl ⟨rfl, mb, s, L, V, ⟨h2.vs, h2.st.mono (by omega) hmn, h.okn, h.okn, hH, h.view⟩⟩⟩
  · have hm := turned_may (K := kept) h.okn hH.1 hne
    refine ⟨M', B', C', T', ?_⟩
    rcases h.st.alv.write (A' := AT (homes n lv) (T ++ [now.data])) (by omega) h.st.a0 (el := turnedL kept now) (by have := turned_le (K := kept) h.okn hH.1; omega) (turned_bytes h.okn) (by omega) hmn hA1 with ⟨-, e1⟩ | e1 | ⟨L', s', e1, e2, e3, e4, e5, e6⟩ | ⟨L', s', e1, e2, e3, e4⟩
    · rw [h.H, hm] at e1; cases e1
    · rw [e1] at hc ⊢
      right; left
      rcases hc with ⟨h', -⟩ | ⟨-, VS⟩ | ⟨⟨-, h'⟩, -⟩
      · exact absurd h' (show ¬ ((5 : Int) = 0) by decide)
      · exact ⟨rfl, mb', VS, h.st.sysTo VS.sys, h.okk, h.okk, hH, h.view⟩
      · exact absurd rfl h'
    · have k1 := kp.up
      rw [e1] at hc k1 ⊢
      left
      have k2 : s'.up.length ≤ s.up.length + 9000 := k1
      rcases hc with ⟨-, VS⟩ | ⟨h', -⟩ | ⟨⟨h', -⟩, -⟩
      · exact ⟨rfl, mb', s', L', _, VS, ⟨VS.sys, e6, hA1, e5.trans h.st.n, e3.trans h.st.leaves, by omega, by omega, by omega⟩, h.okn, h.okn, hH, over_turned h.okn ⟨hH.1, by omega⟩ h.view⟩
      · exact absurd h' (show ¬ ((0 : Int) = 5) by decide)
      · exact absurd rfl h'
    · rw [e1] at hc ⊢
      right; right
      rcases hc with ⟨h', -⟩ | ⟨h', -⟩ | ⟨-, VS⟩
      · exact absurd h' (show ¬ ((4 : Int) = 0) by decide)
      · exact absurd h' (show ¬ ((4 : Int) = 5) by decide)
      · have hlv := h.st.leaves
        have e5 := e4.mono (r' := 2 + ((N + 1 : Nat) : Int)) (by omega) (fun _ h => h)
        rw [hlv] at e5
        exact ⟨rfl, s', VS.sys.drum, e2, e3.trans h.st.n, e5⟩
end

/-- opened behind a fall -/
theorem openVX {w : World} {M : Dom} {d n : Nat} {lv : Int} {N : Nat} {V : Nat → List Int} (h : FelU w M d n lv N V) (hN : N ≤ 239) (hH : 2 ≤ homes n lv ∧ homes n lv ≤ 600) {R : Rcs} (ok : RcsOk R (homes n lv)) (hV : ∀ k z, laidT R k = some z → V k.toNat = z) :
    Calls Tryz.prog 18 #[.pointer (some ⟨d, 0, none⟩)] w fun e w' => ∃ M' B' C' l mb v s L V', e = .returned (.tuple #[.pointer (some ⟨v, 0, none⟩), .int .i64 0]) ∧ LStep M none' w M' (fun q => B' q ∨ C' q) w' ∧ VAlv w' M' B' C' d l mb v n lv (N + 1) [R.data] V' s L R R := by
  have OP := (openX h (by omega)).mono (R' := fun e w' => ∃ M' B' l mb s L, e = .returned (.tuple #[.pointer (some ⟨l, 0, none⟩), .int .i64 0]) ∧ LStep M none' w M' B' w' ∧ Rd w' M' B' d l mb s L (homes n lv) ∧ (loadV (L.lookZ s) (homes n lv) = some R ∧ ∀ w' M' B' l mb, Sys w' M' B' d l mb s L → Sta w' M' B' d l mb n lv (N + 1) (AT (homes n lv) [R.data]) V s L)) (fun e w' => by
    rintro ⟨M', B', l', mb', s', L', rfl, T, X⟩
    refine ⟨M', B', l', mb', s', L', rfl, T, X.live.rd, loadV_view X.live ⟨hH.1, by omega⟩ ok hV, fun w' M' B' l mb SY => ?_⟩
    have X2 : LiveX w' M' B' d l mb n lv (N + 1) V s' L' := ⟨⟨SY, X.live.full, X.live.n, X.live.leaves, X.live.up, X.live.round, X.live.last, X.live.v⟩, X.q, X.full, X.x⟩
    exact X2.sta (by omega) ⟨R, ok, hV, List.mem_singleton.2 rfl⟩)
  refine (openV_any (P := fun _ _ _ _ s L => loadV (L.lookZ s) (homes n lv) = some R ∧ ∀ w' M' B' l mb, Sys w' M' B' d l mb s L → Sta w' M' B' d l mb n lv (N + 1) (AT (homes n lv) [R.data]) V s L) (fun _ _ _ _ _ _ _ h => h) OP).mono ?_
  rintro e w' ⟨M', B', C', l, mb, s', L', T, ⟨hld, hst⟩, ⟨R', v, hl, rfl, VS, -⟩ | ⟨hl, -⟩⟩
  · rw [hld] at hl
    obtain rfl := Option.some.inj hl
    exact ⟨M', B', C', l, mb, v, s', L', V, rfl, T, VS, hst _ _ _ _ _ VS.sys, ok, ok, hH, hV⟩
  · rw [hld] at hl; cases hl

end Go.Proofs.YtleoelhhndeheaaGreat
