import Derived.Test.YtleoelhhndeheaaGreatKeysP
import Derived.Test.YtleoelhhndeheaaGreatLedJ
import Derived.Lib.SlKeysI
import Derived.Test.YtleoelhhndeheaaGreatDrum0
/- a map's keys, sorted -/
open Go Go.RowKit Go.Maps Go.Sort Go.Shelf
namespace Go.Proofs.YtleoelhhndeheaaGreat

theorem homeKeys_mem {T : Tkn} {H : Nat} {k : Int} : k ∈ homeKeys T H ↔ (0 ≤ k ∧ k < H) ∧ (T k).isSome := by
  unfold homeKeys
  rw [List.mem_filter, List.mem_map]
  constructor
  · rintro ⟨⟨n, hn, rfl⟩, h⟩
    have := List.mem_range.1 hn
    exact ⟨by omega, h⟩
  · rintro ⟨⟨h1, h2⟩, h3⟩
    exact ⟨⟨k.toNat, List.mem_range.2 (by omega), by omega⟩, h3⟩
theorem homeKeys_sorted (T : Tkn) (H : Nat) : (homeKeys T H).Pairwise (fun a b => a < b) := by
  unfold homeKeys
  refine List.Pairwise.filter _ ?_
  rw [List.pairwise_map]
  exact List.pairwise_lt_range.imp (fun {a b} h => by omega)
theorem homeKeys_nodup (T : Tkn) (H : Nat) : (homeKeys T H).Nodup := (homeKeys_sorted T H).imp (fun {a b} h => by omega)
theorem homeKeys_length (T : Tkn) (H : Nat) : (homeKeys T H).length ≤ H := by
  unfold homeKeys
  have := List.length_filter_le (fun k => (T k).isSome) ((List.range H).map fun (k : Nat) => (k : Int))
  simpa using this
theorem homeKeys_merge {T : Tkn} {H : Nat} {ss : List Int} (h : ss.Perm (homeKeys T H)) : ss.mergeSort leI = homeKeys T H := by
  rw [mergeSort_of_perm_i h]
  exact List.mergeSort_of_pairwise ((homeKeys_sorted T H).imp (fun {a b} h => by simp only [leI, decide_eq_true_eq]; omega))

theorem sorts_in (m : Nat) : AnyZI.SortsIn Tryz.prog Tryz.sortedA_ren Fence.wide m :=
  ⟨fun blk off cap ss W hH hblk hsz => callsIn_wide.2 (AnyM.slices_Sort_int Tryz.sortA blk off cap ss W hH hblk hsz),
   fun p cap W => callsIn_wide.2 (AnyM.slices_Sort_int_none Tryz.sortA p cap W)⟩

theorem keys_any (b : Nat) (w : World) :
    Calls Tryz.prog 55 #[.map (some b)] w fun e w' => e = .returned (.func (.func 85) #[] #[.pointer (some ⟨w.heap.size, 0, none⟩)]) ∧ w' = w.alloc (.cells #[.map (some b)] 65) :=
  (callsIn_wide (n := 5)).1 (AnyZI.keys_in Tryz.keysA Fence.wide 5 trivial rfl (some b) w)

set_option maxRecDepth 100000 in
theorem sorted_any {w : World} {b : Nat} {T : Tkn} {V : Int → Option Value} (h : IMap w b 4096 V) (hV : ∀ x, (V x).isSome = (T x).isSome) (H : Nat) (hH : ∀ x, (T x).isSome → 0 ≤ x ∧ x < H) :
    Calls Tryz.prog 54 #[.func (.func 85) #[] #[.pointer (some ⟨w.heap.size, 0, none⟩)]] (w.alloc (.cells #[.map (some b)] 65)) fun e w' => ∃ v, e = .returned v ∧ w'.ownsRow w.heap.size 3 1 v (homeKeys T H).length (I8 (homeKeys T H)) ∧ Below w.heap.size w w' := by
  obtain ⟨D, hown, h2, h3⟩ := h.out
  have hbl := hown.lt
  have hs := hown.size_le
  have hseq : SeqGives Fence.wide 2 Tryz.prog 85 #[.pointer (some ⟨w.heap.size, 0, none⟩)] encZ (fun ss => ss.Perm (intKeys D)) (Maps.size D) (w.alloc (.cells #[.map (some b)] 65)) :=
    AnyZI.keys_gives (ρ := Tryz.keysA_ren) { Tryz.keysA with } Fence.wide _ trivial rfl (by omega) w.heap.size b 4096 D _ (by simp) (by simp) (by
      obtain ⟨es, clock, hb, Ft, hs, hD⟩ := hown
      exact ⟨es, clock, (Below.heap_alloc _ _ b hbl).trans hb, Ft, hs, hD⟩)
  have cS := AnyZI.sorted_in Tryz.sortedA Fence.wide 5 trivial trivial trivial trivial rfl (by omega) (sorts_in _) (enters_of Tryz.func84 (by kernel_rfl) rfl) 85 #[.pointer (some ⟨w.heap.size, 0, none⟩)] trivial (enters_of Tryz.func85 (by kernel_rfl) rfl) _ _ (by simp only [maxLen]; omega) (by omega) _ hseq
  refine ((callsIn_wide (n := 5)).1 cS).mono ?_
  rintro e w' ⟨v, ss, rfl, hS, hrow, hnil, hb⟩
  have hp : ss.Perm (homeKeys T H) := by
    refine hS.trans (List.Perm.symm ?_)
    obtain ⟨es, he, hpw⟩ := hown.tidy iK
    subst he
    refine perm_intKeys hpw (fun p hp => ?_) (homeKeys_nodup T H) (fun x => ?_)
    · have hk : ∀ p ∈ es, ∃ x : Int, p.1 = ky x := hown.intKeyed es rfl
      exact hk p hp
    · rw [homeKeys_mem, h2, hV]
      exact ⟨fun h => h.2, fun h => ⟨hH x h, h⟩⟩
  rw [homeKeys_merge hp] at hrow
  have hl : ss.length = (homeKeys T H).length := hp.length_eq
  rw [hl] at hrow
  refine ⟨v, rfl, owns_mono hrow (by simp), ((Below.refl _ w).alloc (Nat.le_refl _) _).trans (hb.mono (by simp))⟩

end Go.Proofs.YtleoelhhndeheaaGreat

/- a drum, while others write and have new blocks -/
open Go Go.RowKit
namespace Go.Proofs.YtleoelhhndeheaaGreat

/-- others write, and have new blocks -/
theorem DrumAt.otherG {w w' : World} {M : Dom} {F G : Nat → Prop} {d : Nat} {s : DS} (h : DrumAt w M d s) (k : Ext F w w') (hF : ∀ q, F q → M.X q) (hM : ∀ q, F q → ¬ M q) (hG : ∀ q, G q → w.heap.size ≤ q ∧ q < w'.heap.size) : DrumAt w' (M.addX G) d s := by
  obtain ⟨p, e, h⟩ := h
  have hT' : ∀ v zs, Trk w M v zs → Trk w' (M.addX G) v zs := fun v zs ht =>
    (ht.toX (M' := M.addX G) fun q hq => hq.elim (fun h => .inl (.inl h)) (fun h => h.elim (fun h => .inl (.inr h)) (fun h => .inr (hG q h).1))).other k (fun q hq => .inl (hF q hq))
  have hH : ∀ {b c n : Nat} {K : Nat → List Int}, HT w M b c n K → HT w' (M.addX G) b c n K := fun hh => by
    obtain ⟨hs, h1, h2⟩ := hh.row
    refine ⟨hh.may, hs, k.owns2 (fun g hg hf => ?_) h1, fun i hi => ?_⟩
    · cases hg
      exact hM _ hf hh.may
    · obtain ⟨v, h3, h4⟩ := h2 i hi
      exact ⟨v, h3, hT' _ _ h4⟩
  have hU : UpAt w' (M.addX G) p.av s.n s.up := by
    obtain ⟨vs, h0, h1, h2⟩ := h.up.row
    refine ⟨h.up.may, vs, h0, k.owns2 (fun g hg hf => hM _ hf (h.up.may g hg)) h1, fun i q hq => ?_⟩
    obtain ⟨h3, v, h4, h5⟩ := h2 i q hq
    exact ⟨h3, v, h4, hT' _ _ h5⟩
  have hf : FuseAt w' (M.addX G) p.fv s.fuse := by
    have hf := h.fuse
    unfold FuseAt at hf ⊢
    split at hf
    · exact hf
    · obtain ⟨b, all, h1, h2, h3, h4⟩ := hf
      exact ⟨b, all, h1, h2, k.blk (fun hf => hM _ hf h2) h3, h4⟩
  exact ⟨p, e, k.blk (fun hf => hM _ hf h.md) h.obj, h.md, h.mb, h.mt, hH h.kept, hH h.now, h.apart, hU, hf, k.blk (fun hf => hM _ hf h.mb) h.flag, k.blk (fun hf => hM _ hf h.mt) h.turns, h.t0, h.t1, h.n0, h.n1, h.u1, fun q hq => Nat.lt_of_lt_of_le (h.ml q hq) k.size,
    fun q hq => hq.elim (fun h1 => Nat.lt_of_lt_of_le (h.xl q h1) k.size) (fun h1 => (hG q h1).2)⟩

end Go.Proofs.YtleoelhhndeheaaGreat

/- package ledger: goHome -/
open Go Go.RowKit
namespace Go.Proofs.YtleoelhhndeheaaGreat

theorem zP (w : World) : (zeroValue 27).run Tryz.prog w = .ok (.slice none 0 0) w := by kernel_rfl
def homeLay (L : LS) (k : Int) : Int × List Int := (2 + L.leaves + k, (L.taken k).getD [])
theorem homeLays_eq (L : LS) (H : Nat) : L.homeLays H = (homeKeys L.taken H).map (homeLay L) := rfl
theorem homeLays_take (L : LS) (H k : Nat) {x : Int} (h : (homeKeys L.taken H)[k]? = some x) : (L.homeLays H).take (k + 1) = (L.homeLays H).take k ++ [homeLay L x] := by
  rw [homeLays_eq, ← List.map_take, ← List.map_take, List.take_add_one, h, List.map_append]
  rfl
theorem lays_take_stop (s : DS) (l : List (Int × List Int)) (k : Nat) (h : (s.lays (l.take k)).1 ≠ 0) : s.lays l = s.lays (l.take k) := by
  have := DS.lays_stop s (l.take k) (l.drop k) h
  rwa [List.take_append_drop] at this
theorem goHome_stop {L : LS} {s : DS} {H : Nat} (hH : L.H s = H) (h : (s.lays (L.homeLays H)).1 ≠ 0) : L.goHome s = ((s.lays (L.homeLays H)).1, L, (s.lays (L.homeLays H)).2) := by
  unfold LS.goHome; rw [hH, if_neg h]
theorem goHome_unset {L : LS} {s : DS} {H : Nat} (hH : L.H s = H) (h : (s.lays (L.homeLays H)).1 = 0) (h2 : (s.lays (L.homeLays H)).2.code ≠ 0) : L.goHome s = ((s.lays (L.homeLays H)).2.code, L, (s.lays (L.homeLays H)).2.settle) := by
  unfold LS.goHome; rw [hH, if_pos h, if_neg h2]
theorem goHome_unturned {L : LS} {s : DS} {H : Nat} (hH : L.H s = H) (h : (s.lays (L.homeLays H)).1 = 0) (h2 : (s.lays (L.homeLays H)).2.code = 0) (h3 : ((s.lays (L.homeLays H)).2.settle.turned (L.round + 1) L.leaves).1 ≠ 0) :
    L.goHome s = (((s.lays (L.homeLays H)).2.settle.turned (L.round + 1) L.leaves).1, { L with round := L.round + 1 }, ((s.lays (L.homeLays H)).2.settle.turned (L.round + 1) L.leaves).2) := by
  unfold LS.goHome; rw [hH, if_pos h, if_pos h2, if_neg h3]
theorem goHome_went {L : LS} {s : DS} {H : Nat} (hH : L.H s = H) (h : (s.lays (L.homeLays H)).1 = 0) (h2 : (s.lays (L.homeLays H)).2.code = 0) (h3 : ((s.lays (L.homeLays H)).2.settle.turned (L.round + 1) L.leaves).1 = 0) :
    L.goHome s = (0, { L with round := L.round + 1, used := 0, last := 0, taken := fun _ => none }, ((s.lays (L.homeLays H)).2.settle.turned (L.round + 1) L.leaves).2) := by
  unfold LS.goHome; rw [hH, if_pos h, if_pos h2, if_pos h3]
/-- a new map -/
theorem Sys.remap {w w' : World} {M : Dom} {B : Nat → Prop} {d l mb g : Nat} {s : DS} {L : LS} (h : Sys w M B d l mb s L) (hg : w.heap.size ≤ g ∧ g < w'.heap.size) (kx : Ext (· = l) w w') (hm : w'.heap[g]? = some (.map #[] 0)) {L' : LS}
    (ho : w'.heap[l]? = some (.cells (ledCells d g L') 122 (0, 0))) (ht : L'.taken = fun _ => none) :
    Sys w' (M.addX (· = g)) (fun q => B q ∨ q = g) d l g s L' ∧ LStep M B w (M.addX (· = g)) (fun q => B q ∨ q = g) w' := by
  have hX := h.led.bx _ h.led.bl
  have hd0 : DrumAt w' M d s := h.drum.other kx (fun q hq => by subst hq; exact hX.1) (fun q hq => by subst hq; exact hX.2)
  have hF : ∀ q, ¬ ((M.addX (· = g)) : Dom).M q ∨ True := fun _ => .inr trivial
  obtain ⟨p, e, hp⟩ := h.drum
  have hT' : ∀ v zs, Trk w M v zs → Trk w' (M.addX (· = g)) v zs := fun v zs hv => hv.step kx (fun q hq => by subst hq; exact .inr hX.1) (fun q hq => by
    rcases hq with hq | hq | hq
    · exact .inl (.inl hq)
    · exact .inl (.inr hq)
    · subst hq; exact .inr hg.1)
  have hd : DrumAt w' (M.addX (· = g)) d s := by
    refine DrumAt.otherG ⟨p, e, hp⟩ kx (fun q hq => by subst hq; exact hX.1) (fun q hq => by subst hq; exact hX.2) (fun q hq => by subst hq; exact hg)
  refine ⟨⟨hd, ho, ⟨⟨fun _ => none, ?_, fun x => .inl ⟨rfl, by rw [ht]⟩⟩, fun x hx => by rw [ht] at hx; cases hx⟩, .inl h.led.bl, .inr rfl, fun q hq => ?_, fun q hq => ?_⟩, ?_⟩
  · have : IMap w' g 0 (fun _ => none) := ⟨.map [], ⟨#[], 0, hm, ⟨by simp, Go.MapKept.stamped_empty 0, by simp⟩, Nat.le_refl _, rfl⟩, fun x => rfl, fun x v h => by cases h⟩
    exact this.small (fun x hx => by cases hx)
  · rcases hq with hq | hq
    · exact ⟨.inl (h.led.bx q hq).1, (h.led.bx q hq).2⟩
    · subst hq
      exact ⟨.inr rfl, fun hm => by have := h.drum.ml _ hm; omega⟩
  · rcases hq with hq | hq
    · exact Nat.lt_of_lt_of_le (h.led.bs q hq) kx.size
    · subst hq; exact hg.2
  · exact ⟨kx.mono (fun q _ hq => .inr (by subst hq; exact h.led.bl)), fun _ h => .inl h, fun q hq => hq.elim .inl (fun e => .inr (by subst e; exact hg.1)), fun q hq => hq.elim .inl (fun e => .inr (by subst e; exact hg.1)), fun q hq => .inl hq⟩

/-- what a ledger's call leaves: the drum, the ledger -/
def Went (w : World) (M : Dom) (B : Nat → Prop) (d l : Nat) (r : Int × LS × DS) (w' : World) : Prop := ∃ M' B' mb', Sys w' M' B' d l mb' r.2.2 r.2.1 ∧ LStep M B w M' B' w'

set_option maxRecDepth 100000 in
set_option maxHeartbeats 8000000 in
theorem goHome_any {w : World} {M : Dom} {B : Nat → Prop} {d l mb : Nat} {s : DS} {L : LS} (h : Sys w M B d l mb s L) (ok : L.Ok s) (hu : s.up.length < 400000000) :
    Calls Tryz.prog 75 #[.pointer (some ⟨l, 0, none⟩)] w fun e w' => e = .returned (.int .i64 (L.goHome s).1) ∧ Went w M B d l (L.goHome s) w' := by
  have HS := hid h
  have OK := hid ok
  obtain ⟨H, hH, hH2⟩ : ∃ H : Nat, L.H s = H ∧ (H : Int) + (2 + L.leaves) = s.n := ⟨_, rfl, by have := ok.l; unfold LS.H; omega⟩
  have HHH := hid hH
  have okr := ok.r
  have okl := ok.l
  have okn := ok.n1
  obtain ⟨c0, c1, c2, c3, c4, c5, c6⟩ := h.led.cells
  obtain ⟨V, hV1, hV2⟩ := h.led.tkn.out
  have hVs : ∀ x, (V x).isSome = (L.taken x).isSome := fun x => by
    rcases hV2 x with ⟨e1, e2⟩ | ⟨v, zs, e1, e2, -⟩ <;> rw [e1, e2] <;> rfl
  have SO := sorted_any hV1 hVs H (fun x hx => by have := ok.t x hx; omega)
  have hKL := homeKeys_length L.taken H
  obtain ⟨ks, hks⟩ : ∃ ks, homeKeys L.taken H = ks := ⟨_, rfl⟩
  rw [hks] at SO hKL
  have HKS := hid hks
  obtain ⟨HLs, hHL⟩ : ∃ HLs, L.homeLays H = HLs := ⟨_, rfl⟩
  have HHL := hid hHL
  have HLT := hid (show ∀ k x, ks[k]? = some x → HLs.take (k + 1) = HLs.take k ++ [homeLay L x] from fun k x hx => by rw [← hHL]; exact homeLays_take L H k (by rw [hks]; exact hx))
  have HLL := hid (show HLs.length = ks.length by rw [← hHL, homeLays_eq, List.length_map, hks])
  obtain ⟨nk, hnk⟩ : ∃ nk, ks.length = nk := ⟨_, rfl⟩
  rw [hnk] at SO hKL
  have HNK := hid hnk
  have KEY := hid (show ∀ x ∈ ks, (0 ≤ x ∧ x < H) ∧ (L.taken x).isSome from fun x hx => homeKeys_mem.1 (by rw [hks]; exact hx))
  have HLW := hid (lt_of_cell c0)
  have hMl : ¬ M l := (h.led.bx _ h.led.bl).2
  clear h hks hHL hnk hV1 hV2 hVs ok hH
  go_enter Tryz.func75, Tryz.ntmps75
  go_wp2_with fail
  refine (keys_any mb w).mono ?_
  rintro e w1 ⟨rfl, rfl⟩
  go_wp2_with fail
  refine SO.mono ?_
  rintro e w2 ⟨kv, rfl, ko, B2⟩
  obtain ⟨ka, kc, rfl, -, -, -, kr, kb, kn⟩ := row_of_owns ko
  have S2 := hid (HS.out.below B2)
  have KR := hid kr
  have hixk := fun k (hk : k < nk) => idx_at1 (P := Tryz.prog) (T := 33) Tryz.underlying33 szI (cap := kc) (fun h0 => kr.nn (by rw [I8_length, HNK.out]; exact h0)) hk
  have KM := hid (show 0 < nk → ¬ M (sB ka) from fun h0 hm => by have := HS.out.drum.ml _ hm; have := (kb h0).1; omega)
  have L2 := hid (show LStep M B w M B w2 from LStep.of_below B2)
  clear SO ko kr kb kn B2
  go_wp2_with fail
  go_loopw [15] (fun i wr => ∃ (k : Nat) (M1 : Dom), i = .int .i64 k ∧ k ≤ nk ∧ Hid ((s.lays (HLs.take k)).1 = 0) ∧ Hid (Sys wr M1 B d l mb (s.lays (HLs.take k)).2 L) ∧ Hid (LStep M B w M1 B wr) ∧ Hid (Row wr ka (I8 ks)) ∧ Hid (0 < nk → ¬ M1 (sB ka))) (fun i _ => nk - (Go.RowKit.intOf i).toNat)
  case atStart => exact ⟨0, M, rfl, Nat.zero_le _, hid rfl, S2, L2, KR, KM⟩
  case round =>
    obtain ⟨k, M1, rfl, hk, HC, SK, LK, RK, MK⟩ := hrel
    by_cases hlt : k < nk
    · have hix := hixk k hlt
      obtain ⟨x, hx⟩ : ∃ x, ks[k]? = some x := ⟨_, List.getElem?_eq_getElem (by rw [HNK.out]; exact hlt)⟩
      obtain ⟨⟨hx1, hx2⟩, hx3⟩ := KEY.out x (List.mem_of_getElem? hx)
      have ck : wr.cell? ⟨sB ka, sO ka + k, none⟩ = some (.int .i64 x) := by
        have := RK.out.num (i := k) (by rw [HNK.out]; exact hlt)
        rw [hx] at this
        exact this
      obtain ⟨d0, -, -, -, -, d5, -⟩ := SK.out.led.cells
      obtain ⟨V, hV1, hV2⟩ := SK.out.led.tkn.out
      obtain ⟨v, zs, e1, e2, htr⟩ : ∃ v zs, V x = some v ∧ L.taken x = some zs ∧ Trk wr M1 v zs := by
        rcases hV2 x with ⟨-, e2⟩ | h
        · rw [e2] at hx3; cases hx3
        · exact h
      obtain ⟨ta, tc, rfl, tr, t96, tM, tby, tcc⟩ := htr
      have lk := fun (W : World) (im : IMap W mb 4096 V) => im.look Tryz.underlying65 (zP W) (x := x) (by omega)
      rw [e1] at lk
      simp only [Option.getD_some] at lk
      have LOOK := hid lk
      have HIM := hid hV1
      have HA := fun (W : World) (Bw : Below wr.heap.size wr W) => homeAt_any (SK.out.below Bw) ⟨by rw [(DS.lays_n s (HLs.take k)).1]; exact okn, by rw [(DS.lays_n s (HLs.take k)).1]; exact okl⟩ x (by omega)
      have hup : (s.lays (HLs.take k)).2.up.length < 1000000000 := by
        have := (DS.lays_n s (HLs.take k)).2
        rw [List.length_take] at this
        omega
      have LA := fun (W : World) (Bw : Below wr.heap.size wr W) => lay_any (SK.out.below Bw).drum (2 + L.leaves + x) (some ta) 96 tc zs (tr.below Bw (Nat.le_refl _)) t96 tby (fun h => by cases h) (fun _ hm => tM (.inl hm)) hup
      obtain ⟨cd, hcd⟩ : ∃ cd, (s.lays (HLs.take k)).2.layCode (2 + L.leaves + x) zs = cd := ⟨_, rfl⟩
      rw [hcd] at LA
      have HSN := hid (show s.lays (HLs.take (k + 1)) = (cd, (s.lays (HLs.take k)).2.lay (2 + L.leaves + x) zs) by
        have hl : homeLay L x = (2 + L.leaves + x, zs) := by unfold homeLay; rw [e2]; rfl
        rw [HLT.out k x hx, DS.lays_snoc _ _ _ HC.out, hl]
        show ((s.lays (HLs.take k)).2.layCode (2 + L.leaves + x) zs, _) = _
        rw [hcd])
      have lw := lt_of_cell d0
      have hmb := SK.out.led.bs _ SK.out.led.bm
      have hM1l : ¬ M1 l := (SK.out.led.bx _ SK.out.led.bl).2
      have hM1m : ¬ M1 mb := (SK.out.led.bx _ SK.out.led.bm).2
      have SB : ∀ W, Below wr.heap.size wr W → W.cell? ⟨l, 0, none⟩ = some (.pointer (some ⟨d, 0, none⟩)) ∧ W.cell? ⟨l, 5, none⟩ = some (.map (some mb)) ∧ (Instr.lookup 65 (.map (some mb)) (.int .i64 x) false).run Tryz.prog W = .ok (.slice (some ta) 96 tc) W := fun W h => ⟨Below.cellAt h lw d0, Below.cellAt h lw d5, LOOK.out W (HIM.out.below h (Nat.le_refl _))⟩
      clear hx hx3 hV1 hV2 e1 e2 tr t96 tM tby hcd lk
      go_wp2_with fail
      refine wp_region_held_drew (S := fun w' => w'.cell? ⟨l, 0, none⟩ = some (.pointer (some ⟨d, 0, none⟩)) ∧ w'.cell? ⟨l, 5, none⟩ = some (.map (some mb)) ∧ (Instr.lookup 65 (.map (some mb)) (.int .i64 x) false).run Tryz.prog w' = .ok (.slice (some ta) 96 tc) w') (by kernel_rfl) (SB _ ((Below.refl wr.heap.size wr).drew)) (fun hHeld => ?_)
      refine wpAnyH_take (i := 0) (v := ?v1) (by simp only [List.getElem?_toArray, List.getElem?_cons_zero]; rfl) (by kernel_rfl) (by kernel_rfl) (by kernel_rfl) (by exact fun _ _ _ h => h) (Or.inl ⟨by rfl, ?h1⟩) (by assumption) ?r1
      case h1 => (intro w hSw; (try dsimp only at hSw); go_simp; try with_reducible rfl)
      try simp only [Act.put, List.setIfInBounds_toArray, List.set_cons_zero, List.set_cons_succ]
      refine wpAnyH_take (i := 1) (v := ?v2) (by simp only [List.getElem?_toArray, List.getElem?_cons_zero, List.getElem?_cons_succ]; rfl) (by kernel_rfl) (by kernel_rfl) (by kernel_rfl) (by exact fun _ _ _ h => h) (Or.inl ⟨by rfl, ?h2⟩) (by assumption) ?r2
      case h2 => (intro w hSw; (try dsimp only at hSw); go_simp; try with_reducible rfl)
      try simp only [Act.put, List.setIfInBounds_toArray, List.set_cons_zero, List.set_cons_succ]
      refine wpAnyH_take (i := 2) (v := ?v3) (by simp only [List.getElem?_toArray, List.getElem?_cons_zero, List.getElem?_cons_succ]; rfl) (by kernel_rfl) (by kernel_rfl) (by kernel_rfl) (by exact fun _ _ _ h => h) (Or.inl ⟨by rfl, ?h3⟩) (by assumption) ?r3
      case h3 => (intro w hSw; (try dsimp only at hSw); go_simp; try with_reducible rfl)
      try simp only [Act.put, List.setIfInBounds_toArray, List.set_cons_zero, List.set_cons_succ]
      refine wpAnyH_take (i := 3) (v := ?v4) (by simp only [List.getElem?_toArray, List.getElem?_cons_zero, List.getElem?_cons_succ]; rfl) (by kernel_rfl) (by kernel_rfl) (by kernel_rfl) (by exact fun _ _ _ h => h) (Or.inl ⟨by rfl, ?h4⟩) (by assumption) ?r4
      case h4 => (intro w hSw; (try dsimp only at hSw); go_simp; try with_reducible rfl)
      try simp only [Act.put, List.setIfInBounds_toArray, List.set_cons_zero, List.set_cons_succ]
      refine wpAnyH_take (i := 4) (v := ?v5) (by simp only [List.getElem?_toArray, List.getElem?_cons_zero, List.getElem?_cons_succ]; rfl) (by kernel_rfl) (by kernel_rfl) (by kernel_rfl) (by exact fun _ _ _ h => h) (Or.inl ⟨by rfl, ?h5⟩) (by assumption) ?r5
      case h5 => (intro w hSw; (try dsimp only at hSw); go_simp; try with_reducible rfl)
      try simp only [Act.put, List.setIfInBounds_toArray, List.set_cons_zero, List.set_cons_succ]
      refine wpAnyH_take (i := 5) (v := ?v6) (by simp only [List.getElem?_toArray, List.getElem?_cons_zero, List.getElem?_cons_succ]; rfl) (by kernel_rfl) (by kernel_rfl) (by kernel_rfl) (by exact fun _ _ _ h => h) (Or.inl ⟨by rfl, ?h6⟩) (by assumption) ?r6
      case h6 => (intro w hSw; (try dsimp only at hSw); go_simp; try with_reducible rfl)
      try simp only [Act.put, List.setIfInBounds_toArray, List.set_cons_zero, List.set_cons_succ]
      refine wpAnyH_take (i := 7) (v := ?v7) (by simp only [List.getElem?_toArray, List.getElem?_cons_zero, List.getElem?_cons_succ]; rfl) (by kernel_rfl) (by kernel_rfl) (by kernel_rfl) (by exact fun _ _ _ h => h) (Or.inl ⟨by rfl, ?h7⟩) (by assumption) ?r7
      case h7 => (intro w hSw; (try dsimp only at hSw); go_simp; try with_reducible rfl)
      try simp only [Act.put, List.setIfInBounds_toArray, List.set_cons_zero, List.set_cons_succ]
      refine wpAnyH_take (i := 8) (v := ?v8) (by simp only [List.getElem?_toArray, List.getElem?_cons_zero, List.getElem?_cons_succ]; rfl) (by kernel_rfl) (by kernel_rfl) (by kernel_rfl) (by exact fun _ _ _ h => h) (Or.inl ⟨by rfl, ?h8⟩) (by assumption) ?r8
      case h8 => (intro w hSw; (try dsimp only at hSw); go_simp; try with_reducible rfl)
      try simp only [Act.put, List.setIfInBounds_toArray, List.set_cons_zero, List.set_cons_succ]
      refine wpAnyH_take (i := 9) (v := ?v9) (by simp only [List.getElem?_toArray, List.getElem?_cons_zero, List.getElem?_cons_succ]; rfl) (by kernel_rfl) (by kernel_rfl) (by kernel_rfl) (by exact fun _ _ _ h => h) (Or.inl ⟨by rfl, ?h9⟩) (by assumption) ?r9
      case h9 => (intro w hSw; (try dsimp only at hSw); go_simp; try with_reducible rfl)
      try simp only [Act.put, List.setIfInBounds_toArray, List.set_cons_zero, List.set_cons_succ]
      refine wpAnyH_take (i := 10) (v := ?v10) (by simp only [List.getElem?_toArray, List.getElem?_cons_zero, List.getElem?_cons_succ]; rfl) (by kernel_rfl) (by kernel_rfl) (by kernel_rfl) (by exact fun _ _ _ h => h) (Or.inl ⟨by rfl, ?h10⟩) (by assumption) ?r10
      case h10 => (intro w hSw; (try dsimp only at hSw); go_simp; try with_reducible rfl)
      try simp only [Act.put, List.setIfInBounds_toArray, List.set_cons_zero, List.set_cons_succ]
      refine wpAnyH_take (i := 11) (v := ?v11) (by simp only [List.getElem?_toArray, List.getElem?_cons_zero, List.getElem?_cons_succ]; rfl) (by kernel_rfl) (by kernel_rfl) (by kernel_rfl) (by exact fun _ _ _ h => h) (Or.inl ⟨by rfl, ?h11⟩) (by assumption) ?r11
      case h11 => (intro w hSw; (try dsimp only at hSw); go_simp; try with_reducible rfl)
      try simp only [Act.put, List.setIfInBounds_toArray, List.set_cons_zero, List.set_cons_succ]
      refine wpAnyH_take (i := 12) (v := ?v12) (by simp only [List.getElem?_toArray, List.getElem?_cons_zero, List.getElem?_cons_succ]; rfl) (by kernel_rfl) (by kernel_rfl) (by kernel_rfl) (by exact fun _ _ _ h => h) (Or.inl ⟨by rfl, ?h12⟩) (by assumption) ?r12
      case h12 => (intro w hSw; (try dsimp only at hSw); go_simp; try with_reducible rfl)
      try simp only [Act.put, List.setIfInBounds_toArray, List.set_cons_zero, List.set_cons_succ]
      refine wpAnyH_ready (rs := [6]) (by kernel_rfl) (by simp) ?_
      refine (AllReadyH.cons (by simp only [List.getElem?_toArray, List.getElem?_cons_zero, List.getElem?_cons_succ]; rfl) (fun K hK => ?_) AllReadyH.nil)
      go_simp
      go_at_call 87
      refine (HA _ ((Below.refl wr.heap.size wr).drew)).mono ?_
      rintro e wq13 ⟨rfl, rfl⟩
      refine hK.out _ _ (SB _ (Below.refl wr.heap.size wr).drew) (fun hH14 => ?_)
      clear hK
      try simp only [Act.put, List.setIfInBounds_toArray, List.set_cons_zero, List.set_cons_succ]
      refine wpAnyH_ready (rs := [13]) (by kernel_rfl) (by simp) ?_
      refine (AllReadyH.cons (by simp only [List.getElem?_toArray, List.getElem?_cons_zero, List.getElem?_cons_succ]; rfl) (fun K hK => ?_) AllReadyH.nil)
      go_simp
      go_at_call 21
      refine (LA _ ((Below.refl wr.heap.size wr).drew)).mono ?_
      rintro e w8 ⟨rfl, M8, D8, S8⟩
      have Y8 := hid ((SK.out.below ((Below.refl wr.heap.size wr).drew)).step D8 S8)
      have Z8 := hid ((LK.out.trans (LStep.of_below (M := M1) (B := B) ((Below.refl wr.heap.size wr).drew))).trans (LStep.of_step S8))
      have R8' := hid ((RK.out.below ((Below.refl wr.heap.size wr).drew) (Nat.le_refl _)).ext S8.ext (fun hl => MK.out (by rw [I8_length, HNK.out] at hl; exact hl)))
      have K8 := hid (show 0 < nk → ¬ M8 (sB ka) from fun h0 hm => (S8.new _ hm).elim (MK.out h0) (fun e => by have h7 := RK.out.lt (by rw [I8_length, HNK.out]; exact h0); have h8 := ((Below.refl wr.heap.size wr).drew).size; omega))
      refine hK.out _ _ ⟨S8.ext.cell hM1l (Below.cellAt ((Below.refl wr.heap.size wr).drew) lw d0), S8.ext.cell hM1l (Below.cellAt ((Below.refl wr.heap.size wr).drew) lw d5), LOOK.out _ ((HIM.out.below ((Below.refl wr.heap.size wr).drew) (Nat.le_refl _)).ext S8.ext hM1m)⟩ (fun hH15 => ?_)
      clear hK
      try simp only [Act.put, List.setIfInBounds_toArray, List.set_cons_zero, List.set_cons_succ]
      refine wpAnyH_take (i := 14) (v := ?v16) (by simp only [List.getElem?_toArray, List.getElem?_cons_zero, List.getElem?_cons_succ]; rfl) (by kernel_rfl) (by kernel_rfl) (by kernel_rfl) (by exact fun _ _ _ h => h) (Or.inl ⟨by rfl, ?h16⟩) (by assumption) ?r16
      case h16 => (intro w hSw; (try dsimp only at hSw); go_simp; try with_reducible rfl)
      try simp only [Act.put, List.setIfInBounds_toArray, List.set_cons_zero, List.set_cons_succ]
      refine wpAnyH_done (by kernel_rfl) ?_ _
      clear D8 S8 LA HA
      by_cases hc : cd = 0
      · subst hc
        go_wp2_with fail
        go_roundw
        case measure => simp [Go.RowKit.intOf]; omega
        case rel => exact ⟨k + 1, M8, by go_num, by omega, hid (by rw [HSN.out]), by rw [HSN.out]; exact Y8, Z8, R8', K8⟩
      · have hc1 : (cd != 0) = true := by simpa using hc
        have HST := hid (lays_take_stop s HLs (k + 1) (by rw [HSN.out]; exact hc))
        have HG := hid (goHome_stop (L := L) (s := s) HHH.out (by rw [HHL.out, HST.out, HSN.out]; exact hc))
        go_wp2_with fail
        go_ret
        exact ⟨by rw [HG.out, HHL.out, HST.out, HSN.out]; rfl, M8, B, mb, by rw [HG.out, HHL.out, HST.out, HSN.out]; exact Y8.out, Z8.out⟩
    · obtain rfl : nk = k := by omega
      have HF := hid (show HLs.take nk = HLs by rw [List.take_of_length_le (by rw [HLL.out, HNK.out]; exact Nat.le_refl _)])
      rw [HF.out] at SK HC
      have upL := (DS.lays_n s HLs).2
      have nL := (DS.lays_n s HLs).1
      rw [HLL.out, HNK.out] at upL
      have SE := settle_any SK.out.drum
      obtain ⟨cd, hcd⟩ : ∃ cd, (s.lays HLs).2.code = cd := ⟨_, rfl⟩
      rw [hcd] at SE
      have HCD := hid hcd
      obtain ⟨d0, -, -, -, -, -, -⟩ := SK.out.led.cells
      have NL := hid nL
      clear hcd hixk nL
      by_cases hc : cd = 0
      · subst hc
        go_wp2_with fail
        refine SE.mono ?_
        rintro e w5 ⟨rfl, M5, D5, S5⟩
        have Y5 := hid (SK.out.step D5 S5)
        have Z5 := hid (LK.out.trans (LStep.of_step S5))
        have f1 := fun o => blk_free (o := o) Y5.out.led.obj
        have Y6 := hid (Y5.out.put (o := 1) (v := .int .i64 (L.round + 1)) (L' := { L with round := L.round + 1 }) rfl rfl)
        have Z6 := hid (Z5.out.trans (LStep.put (M := M5) Y5.out.led.bl 1 (.int .i64 (L.round + 1))))
        obtain ⟨-, g1, -, -, -, -, -⟩ := Y5.out.led.cells
        have hlt5 : l < w5.heap.size := Y5.out.led.bs _ Y5.out.led.bl
        clear SE D5 S5 d0
        go_wp2_with fail
        obtain ⟨w6, hw6⟩ : ∃ w6, w5.setCell ⟨l, 1, none⟩ (.int .i64 (L.round + 1)) = w6 := ⟨_, rfl⟩
        rw [hw6] at Y6 Z6
        have g0 := Y6.out.led.cells.1
        have g1' := Y6.out.led.cells.2.1
        have g2' := Y6.out.led.cells.2.2.1
        have lw6 := lt_of_cell g0
        have ups : (s.lays HLs).2.settle.up.length < 1000000000 := by have := DS.settle_up (s.lays HLs).2; omega
        have TU := fun (W : World) (Bw : Below w6.heap.size w6 W) => turned_any (Y6.out.below Bw).drum (L.round + 1) L.leaves (by omega) (by omega) ups
        obtain ⟨ct, hct⟩ : ∃ ct, ((s.lays HLs).2.settle.turned (L.round + 1) L.leaves).1 = ct := ⟨_, rfl⟩
        rw [hct] at TU
        have HCT := hid hct
        have SB : ∀ W, Below w6.heap.size w6 W → W.cell? ⟨l, 0, none⟩ = some (.pointer (some ⟨d, 0, none⟩)) ∧ W.cell? ⟨l, 1, none⟩ = some (.int .i64 (L.round + 1)) ∧ W.cell? ⟨l, 2, none⟩ = some (.int .i64 L.leaves) := fun W h => ⟨Below.cellAt h lw6 g0, Below.cellAt h lw6 g1', Below.cellAt h lw6 g2'⟩
        have hM5l : ¬ M5 l := (Y6.out.led.bx _ Y6.out.led.bl).2
        simp only at g1' g2'
        clear g1 hct
        rw [hw6]
        refine wp_region_held_drew (S := fun w' => w'.cell? ⟨l, 0, none⟩ = some (.pointer (some ⟨d, 0, none⟩)) ∧ w'.cell? ⟨l, 1, none⟩ = some (.int .i64 (L.round + 1)) ∧ w'.cell? ⟨l, 2, none⟩ = some (.int .i64 L.leaves)) (by kernel_rfl) (SB _ ((Below.refl w6.heap.size w6).drew)) (fun hHeld => ?_)
        refine wpAnyH_take (i := 0) (v := ?v17) (by simp only [List.getElem?_toArray, List.getElem?_cons_zero]; rfl) (by kernel_rfl) (by kernel_rfl) (by kernel_rfl) (by exact fun _ _ _ h => h) (Or.inl ⟨by rfl, ?h17⟩) (by assumption) ?r17
        case h17 => (intro w hSw; (try dsimp only at hSw); go_simp; try with_reducible rfl)
        try simp only [Act.put, List.setIfInBounds_toArray, List.set_cons_zero, List.set_cons_succ]
        refine wpAnyH_take (i := 1) (v := ?v18) (by simp only [List.getElem?_toArray, List.getElem?_cons_zero, List.getElem?_cons_succ]; rfl) (by kernel_rfl) (by kernel_rfl) (by kernel_rfl) (by exact fun _ _ _ h => h) (Or.inl ⟨by rfl, ?h18⟩) (by assumption) ?r18
        case h18 => (intro w hSw; (try dsimp only at hSw); go_simp; try with_reducible rfl)
        try simp only [Act.put, List.setIfInBounds_toArray, List.set_cons_zero, List.set_cons_succ]
        refine wpAnyH_take (i := 2) (v := ?v19) (by simp only [List.getElem?_toArray, List.getElem?_cons_zero, List.getElem?_cons_succ]; rfl) (by kernel_rfl) (by kernel_rfl) (by kernel_rfl) (by exact fun _ _ _ h => h) (Or.inl ⟨by rfl, ?h19⟩) (by assumption) ?r19
        case h19 => (intro w hSw; (try dsimp only at hSw); go_simp; try with_reducible rfl)
        try simp only [Act.put, List.setIfInBounds_toArray, List.set_cons_zero, List.set_cons_succ]
        refine wpAnyH_take (i := 3) (v := ?v20) (by simp only [List.getElem?_toArray, List.getElem?_cons_zero, List.getElem?_cons_succ]; rfl) (by kernel_rfl) (by kernel_rfl) (by kernel_rfl) (by exact fun _ _ _ h => h) (Or.inl ⟨by rfl, ?h20⟩) (by assumption) ?r20
        case h20 => (intro w hSw; (try dsimp only at hSw); go_simp; try with_reducible rfl)
        try simp only [Act.put, List.setIfInBounds_toArray, List.set_cons_zero, List.set_cons_succ]
        refine wpAnyH_take (i := 4) (v := ?v21) (by simp only [List.getElem?_toArray, List.getElem?_cons_zero, List.getElem?_cons_succ]; rfl) (by kernel_rfl) (by kernel_rfl) (by kernel_rfl) (by exact fun _ _ _ h => h) (Or.inl ⟨by rfl, ?h21⟩) (by assumption) ?r21
        case h21 => (intro w hSw; (try dsimp only at hSw); go_simp; try with_reducible rfl)
        try simp only [Act.put, List.setIfInBounds_toArray, List.set_cons_zero, List.set_cons_succ]
        refine wpAnyH_take (i := 5) (v := ?v22) (by simp only [List.getElem?_toArray, List.getElem?_cons_zero, List.getElem?_cons_succ]; rfl) (by kernel_rfl) (by kernel_rfl) (by kernel_rfl) (by exact fun _ _ _ h => h) (Or.inl ⟨by rfl, ?h22⟩) (by assumption) ?r22
        case h22 => (intro w hSw; (try dsimp only at hSw); go_simp; try with_reducible rfl)
        try simp only [Act.put, List.setIfInBounds_toArray, List.set_cons_zero, List.set_cons_succ]
        refine wpAnyH_take (i := 6) (v := ?v23) (by simp only [List.getElem?_toArray, List.getElem?_cons_zero, List.getElem?_cons_succ]; rfl) (by kernel_rfl) (by kernel_rfl) (by kernel_rfl) (by exact fun _ _ _ h => h) (Or.inl ⟨by rfl, ?h23⟩) (by assumption) ?r23
        case h23 => (intro w hSw; (try dsimp only at hSw); go_simp; try with_reducible rfl)
        try simp only [Act.put, List.setIfInBounds_toArray, List.set_cons_zero, List.set_cons_succ]
        refine wpAnyH_take (i := 7) (v := ?v24) (by simp only [List.getElem?_toArray, List.getElem?_cons_zero, List.getElem?_cons_succ]; rfl) (by kernel_rfl) (by kernel_rfl) (by kernel_rfl) (by exact fun _ _ _ h => h) (Or.inl ⟨by rfl, ?h24⟩) (by assumption) ?r24
        case h24 => (intro w hSw; (try dsimp only at hSw); go_simp; try with_reducible rfl)
        try simp only [Act.put, List.setIfInBounds_toArray, List.set_cons_zero, List.set_cons_succ]
        refine wpAnyH_ready (rs := [8]) (by kernel_rfl) (by simp) ?_
        refine (AllReadyH.cons (by simp only [List.getElem?_toArray, List.getElem?_cons_zero, List.getElem?_cons_succ]; rfl) (fun K hK => ?_) AllReadyH.nil)
        go_simp
        go_at_call 90
        refine (TU _ ((Below.refl w6.heap.size w6).drew)).mono ?_
        rintro e w8 ⟨rfl, M8, D8, S8⟩
        have Y8 := hid ((Y6.out.below ((Below.refl w6.heap.size w6).drew)).step D8 S8)
        have Z8 := hid ((Z6.out.trans (LStep.of_below (M := M5) (B := B) ((Below.refl w6.heap.size w6).drew))).trans (LStep.of_step S8))
        refine hK.out _ _ ⟨S8.ext.cell hM5l (Below.cellAt ((Below.refl w6.heap.size w6).drew) lw6 g0), S8.ext.cell hM5l (Below.cellAt ((Below.refl w6.heap.size w6).drew) lw6 g1'), S8.ext.cell hM5l (Below.cellAt ((Below.refl w6.heap.size w6).drew) lw6 g2')⟩ (fun hH25 => ?_)
        clear hK
        try simp only [Act.put, List.setIfInBounds_toArray, List.set_cons_zero, List.set_cons_succ]
        refine wpAnyH_take (i := 9) (v := ?v26) (by simp only [List.getElem?_toArray, List.getElem?_cons_zero, List.getElem?_cons_succ]; rfl) (by kernel_rfl) (by kernel_rfl) (by kernel_rfl) (by exact fun _ _ _ h => h) (Or.inl ⟨by rfl, ?h26⟩) (by assumption) ?r26
        case h26 => (intro w hSw; (try dsimp only at hSw); go_simp; try with_reducible rfl)
        try simp only [Act.put, List.setIfInBounds_toArray, List.set_cons_zero, List.set_cons_succ]
        refine wpAnyH_done (by kernel_rfl) ?_ _
        clear D8 S8 TU
        by_cases hc : ct = 0
        · have HG := hid (goHome_went (L := L) (s := s) HHH.out (by rw [HHL.out]; exact HC.out) (by rw [HHL.out, HCD.out]) (by rw [HHL.out, HCT.out]; exact hc))
          subst hc
          have hmm := @run_makeMap Tryz.prog
          have fr := fun o => blk_free (o := o) Y8.out.led.obj
          obtain ⟨h0, h1, h2, h3, h4, h5, h6⟩ := Y8.out.led.cells
          simp only at h0 h1 h2 h3 h4 h5 h6
          have lw8 := lt_of_cell h0
          have RM := hid (Y8.out.remap (g := w8.heap.size) (w' := (((w8.setCell ⟨l, 3, none⟩ (.int .i64 0)).setCell ⟨l, 4, none⟩ (.int .i64 0)).setCell ⟨l, 5, none⟩ (.map (some w8.heap.size))).alloc (.map #[] 0)) ⟨Nat.le_refl _, by simp⟩
            (by
              have e1 : ∀ (W : World) (o : Nat) (v : Value), Ext (· = l) W (W.setCell ⟨l, o, none⟩ v) := fun W o v => ⟨rfl, rfl, rfl, by simp, fun q hq hf => Below.heap_setCell _ _ _ _ hf⟩
              exact (((e1 _ _ _).trans (e1 _ _ _) (fun _ _ h => h)).trans (e1 _ _ _) (fun _ _ h => h)).alloc _)
            (blk_at _ (by simp)) (L' := { L with round := L.round + 1, used := 0, last := 0, taken := fun _ => none })
            (blk_old _ (blk_setCell (blk_setCell (blk_setCell Y8.out.led.obj _ (o := 3)) _ (o := 4)) _ (o := 5))) rfl)
          go_wp2_with fail
          go_ret
          exact ⟨by rw [HG.out]; rfl, ⟨_, _, _, by rw [HG.out, HHL.out]; exact RM.out.1, Z8.out.trans RM.out.2⟩⟩
        · have hc1 : (ct != 0) = true := by simpa using hc
          have HG := hid (goHome_unturned (L := L) (s := s) HHH.out (by rw [HHL.out]; exact HC.out) (by rw [HHL.out, HCD.out]) (by rw [HHL.out, HCT.out]; exact hc))
          go_wp2_with fail
          go_ret
          exact ⟨by rw [HG.out, HHL.out, HCT.out]; rfl, M8, B, mb, by rw [HG.out, HHL.out]; exact Y8.out, Z8.out⟩
      · have hc1 : (cd != 0) = true := by simpa using hc
        have HG := hid (goHome_unset (L := L) (s := s) HHH.out (by rw [HHL.out]; exact HC.out) (by rw [HHL.out, HCD.out]; exact hc))
        go_wp2_with fail
        refine SE.mono ?_
        rintro e w5 ⟨rfl, M5, D5, S5⟩
        have Y5 := hid (SK.out.step D5 S5)
        have Z5 := hid (LK.out.trans (LStep.of_step S5))
        clear SE D5 S5
        go_wp2_with fail
        go_ret
        exact ⟨by rw [HG.out, HHL.out, HCD.out]; rfl, M5, B, mb, by rw [HG.out, HHL.out]; exact Y5.out, Z5.out⟩

end Go.Proofs.YtleoelhhndeheaaGreat

/- package ledger: Settle, Balance -/
open Go Go.RowKit
namespace Go.Proofs.YtleoelhhndeheaaGreat

theorem Went.of {w : World} {M M' : Dom} {B B' : Nat → Prop} {d l mb : Nat} {r : Int × LS × DS} {w' : World} (h : Sys w' M' B' d l mb r.2.2 r.2.1) (k : LStep M B w M' B' w') : Went w M B d l r w' := ⟨M', B', mb, h, k⟩
/-- behind a drum's step -/
theorem Went.after {w w1 w' : World} {M M1 : Dom} {B B1 : Nat → Prop} {d l : Nat} {r : Int × LS × DS} (k : LStep M B w M1 B1 w1) (h : Went w1 M1 B1 d l r w') : Went w M B d l r w' := by
  obtain ⟨M', B', mb', h1, h2⟩ := h
  exact ⟨M', B', mb', h1, k.trans h2⟩

set_option maxHeartbeats 4000000 in
theorem lsettle_any {w : World} {M : Dom} {B : Nat → Prop} {d l mb : Nat} {s : DS} {L : LS} (h : Sys w M B d l mb s L) :
    Calls Tryz.prog 58 #[.pointer (some ⟨l, 0, none⟩)] w fun e w' => e = .returned (.int .i64 (L.settle s).1) ∧ Went w M B d l (L.settle s) w' := by
  obtain ⟨c0, -, -, -, -, -, c6⟩ := h.led.cells
  have HS := hid h
  have SE := settle_any h.drum
  obtain ⟨lo, hlo⟩ : ∃ lo, L.lost = lo := ⟨_, rfl⟩
  rw [hlo] at c6
  have HLO := hid hlo
  clear h hlo
  cases lo with
  | true =>
    have HF := hid (show L.settle s = (4, L, s) by unfold LS.settle; rw [HLO.out]; rfl)
    go_enter Tryz.func58, Tryz.ntmps58
    go_wp2_with fail
    go_ret
    exact ⟨by rw [HF.out]; rfl, Went.of (by rw [HF.out]; exact HS.out) (LStep.refl _ _ _)⟩
  | false =>
    have HF := hid (show L.settle s = (s.code, L.ends s.code, s.settle) by unfold LS.settle; rw [HLO.out]; rfl)
    obtain ⟨cd, hcd⟩ : ∃ cd, s.code = cd := ⟨_, rfl⟩
    rw [hcd] at SE
    have HCD := hid hcd
    clear hcd
    go_enter Tryz.func58, Tryz.ntmps58
    go_wp2_with fail
    refine SE.mono ?_
    rintro e w5 ⟨rfl, M5, D5, S5⟩
    have Y5 := hid (HS.out.step D5 S5)
    have Z5 := hid (show LStep M B w M5 B w5 from LStep.of_step S5)
    have EN := ends_any Y5.out cd
    clear SE D5 S5
    go_wp2_with fail
    refine EN.mono ?_
    rintro e w6 ⟨rfl, Y6, Z6⟩
    have Y6H := hid Y6
    have Z6H := hid Z6
    clear EN Y6 Z6
    go_wp2_with fail
    go_ret
    exact ⟨by rw [HF.out, HCD.out]; rfl, Went.of (by rw [HF.out, HCD.out]; exact Y6H.out) (Z5.out.trans Z6H.out)⟩

theorem LS.settle_ok {L : LS} {s : DS} (ok : L.Ok s) : (L.settle s).2.1.Ok (L.settle s).2.2 ∧ (L.settle s).2.2.n = s.n ∧ (L.settle s).2.2.up.length ≤ s.up.length ∧ (L.settle s).2.1.round = L.round ∧ (L.settle s).2.1.leaves = L.leaves := by
  unfold LS.settle
  split
  · exact ⟨ok, rfl, Nat.le_refl _, rfl, rfl⟩
  · have hn := DS.settle_n' s
    exact ⟨⟨by show s.settle.n ≤ _; rw [hn]; exact ok.n1, ok.r, by show _ ∧ L.leaves + 4 ≤ s.settle.n; rw [hn]; exact ok.l, ok.u, ok.k, by show ∀ x, _ → _ ∧ x < (s.settle.n : Int) - _; rw [hn]; exact ok.t, ok.z⟩, hn, DS.settle_up s, rfl, rfl⟩

set_option maxHeartbeats 4000000 in
theorem balance_any {w : World} {M : Dom} {B : Nat → Prop} {d l mb : Nat} {s : DS} {L : LS} (h : Sys w M B d l mb s L) (ok : L.Ok s) (hu : s.up.length < 400000000) :
    Calls Tryz.prog 50 #[.pointer (some ⟨l, 0, none⟩)] w fun e w' => e = .returned (.int .i64 (L.balance s).1) ∧ Went w M B d l (L.balance s) w' := by
  have SE := lsettle_any h
  obtain ⟨ok2, hn2, hu2, -, -⟩ := LS.settle_ok ok
  have OK2 := hid ok2
  have HB := hid (show L.balance s = if (L.settle s).1 = 0 then (((L.settle s).2.1.goHome (L.settle s).2.2).1, ((L.settle s).2.1.goHome (L.settle s).2.2).2.1.ends ((L.settle s).2.1.goHome (L.settle s).2.2).1, ((L.settle s).2.1.goHome (L.settle s).2.2).2.2) else L.settle s from rfl)
  obtain ⟨cd, hcd⟩ : ∃ cd, (L.settle s).1 = cd := ⟨_, rfl⟩
  rw [hcd] at SE HB
  have HCD := hid hcd
  clear h ok ok2 hn2 hcd
  by_cases hc : cd = 0
  · subst hc
    have HB2 := hid (HB.out.trans (if_pos rfl))
    go_enter Tryz.func50, Tryz.ntmps50
    go_wp2_with fail
    refine SE.mono ?_
    rintro e w5 ⟨rfl, M5, B5, mb5, Y5, Z5⟩
    have GH := goHome_any Y5 OK2.out (by omega)
    obtain ⟨cg, hcg⟩ : ∃ cg, ((L.settle s).2.1.goHome (L.settle s).2.2).1 = cg := ⟨_, rfl⟩
    rw [hcg] at GH
    have HCG := hid hcg
    have Z5H := hid Z5
    clear SE Y5 Z5 hcg
    go_wp2_with fail
    refine GH.mono ?_
    rintro e w6 ⟨rfl, M6, B6, mb6, Y6, Z6⟩
    have EN := ends_any Y6 cg
    have Z6H := hid (Z5H.out.trans Z6)
    clear GH Y6 Z6
    go_wp2_with fail
    refine EN.mono ?_
    rintro e w7 ⟨rfl, Y7, Z7⟩
    have Y7H := hid Y7
    have Z7H := hid (Z6H.out.trans Z7)
    have HB3 := hid (show L.balance s = (cg, ((L.settle s).2.1.goHome (L.settle s).2.2).2.1.ends cg, ((L.settle s).2.1.goHome (L.settle s).2.2).2.2) by rw [HB2.out, HCG.out])
    clear EN Y7 Z7
    go_wp2_with fail
    go_ret
    exact ⟨by rw [HB3.out]; rfl, Went.of (by rw [HB3.out]; exact Y7H.out) Z7H.out⟩
  · have hc1 : (cd != 0) = true := by simpa using hc
    have HB2 := hid (HB.out.trans (if_neg hc))
    go_enter Tryz.func50, Tryz.ntmps50
    go_wp2_with fail
    refine SE.mono ?_
    rintro e w5 ⟨rfl, W5⟩
    have W5H := hid W5
    clear SE W5
    go_wp2_with fail
    go_ret
    exact ⟨by rw [HB2.out, HCD.out]; rfl, by rw [HB2.out]; exact W5H.out⟩

end Go.Proofs.YtleoelhhndeheaaGreat

/- package ledger: lay -/
open Go Go.RowKit
namespace Go.Proofs.YtleoelhhndeheaaGreat

theorem LvRow.step {w w' : World} {N N' : Nat → Prop} {a : Option Addr} {n : Nat} {ls : List (List Int)} (h : LvRow w N a n ls) {F : Nat → Prop} (k : Ext F w w') (hF : ∀ q, F q → q < w.heap.size → N q) (hN : ∀ q, N' q → N q ∨ w.heap.size ≤ q) : LvRow w' N' a n ls := by
  refine ⟨h.len, h.nn, fun h0 hf => ?_, fun i zs hi => ?_⟩
  · have hl := h.len
    have hi : ls[0]? = some (ls[0]'(by omega)) := List.getElem?_eq_getElem _
    obtain ⟨b, c, h1, -⟩ := h.cell 0 _ hi
    have := lt_of_cell h1
    exact (hN _ hf).elim (h.hd h0) (fun e => by omega)
  · obtain ⟨b, c, h1, h2, h3, h4, h5, h6⟩ := h.cell i zs hi
    have hi2 : i < ls.length := (List.getElem?_eq_some_iff.1 hi).1
    have h0 := h.hd (by have := h.len; omega)
    have hb : b.block < w.heap.size := h2.lt (by rw [B8_length]; omega)
    exact ⟨b, c, k.cell (fun hf => h0 (hF _ hf (lt_of_cell h1))) h1, h2.ext k (fun hl hf => h6 (hF _ hf hb)), h3, h4, h5, fun hf => (hN _ hf).elim h6 (fun e => by omega)⟩
theorem EntsAt.step {w w' : World} {N N' : Nat → Prop} {a : Option Addr} {n : Nat} {l : List Ent} (h : EntsAt w N a n l) {F : Nat → Prop} (k : Ext F w w') (hF : ∀ q, F q → q < w.heap.size → N q) (hN : ∀ q, N' q → N q ∨ w.heap.size ≤ q) : EntsAt w' N' a n l := by
  have hk := h.keep k hF
  refine ⟨h.len, h.nn, hk.c0, fun i x hi => ?_, h.bd, fun h0 hf => ?_⟩
  · obtain ⟨b, c, h1, h2, h3, h4, h5⟩ := h.c1 i x hi
    obtain ⟨b', c', k1, k2, -, -, -⟩ := hk.c1 i x hi
    have hi2 : i < l.length := (List.getElem?_eq_some_iff.1 hi).1
    have hne := h.hd (by have := h.len; omega)
    have k1' := k.cell (fun hf => hne (hF _ hf (lt_of_cell h1))) h1
    refine ⟨b, c, k1', h2.ext k (fun hl hf => ?_), h3, h4, fun h0 hf => ?_⟩
    · rw [B8_length] at hl
      exact h5 hl (hF _ hf (h2.lt (by rw [B8_length]; exact hl)))
    · have hb := h2.lt (by rw [B8_length]; exact h0)
      exact (hN _ hf).elim (h5 h0) (fun e => by omega)
  · have hl := h.len
    have hi : l[0]? = some (l[0]'(by omega)) := List.getElem?_eq_getElem _
    have := lt_of_cell (h.c0 0 _ hi)
    exact (hN _ hf).elim (h.hd h0) (fun e => by omega)
/-- what no call of the ledger's writes, nor lies among what others may write -/
abbrev inD (M : Dom) : Nat → Prop := fun q => M q ∨ M.X q
theorem LStep.inD {M M' : Dom} {B B' : Nat → Prop} {w w' : World} (k : LStep M B w M' B' w') : ∀ q, inD M' q → inD M q ∨ w.heap.size ≤ q := fun q hq =>
  hq.elim (fun h => (k.new q h).imp .inl id) (fun h => (k.newX q h).imp .inr id)
theorem LvRow.lstep {w w' : World} {M M' : Dom} {B B' : Nat → Prop} {a : Option Addr} {n : Nat} {ls : List (List Int)} (h : LvRow w (inD M) a n ls) (k : LStep M B w M' B' w') (hB : ∀ q, B q → M.X q) : LvRow w' (inD M') a n ls :=
  h.step k.ext (fun q hq _ => hq.elim .inl (fun e => .inr (hB q e))) k.inD
theorem EntsAt.lstep {w w' : World} {M M' : Dom} {B B' : Nat → Prop} {a : Option Addr} {n : Nat} {l : List Ent} (h : EntsAt w (inD M) a n l) (k : LStep M B w M' B' w') (hB : ∀ q, B q → M.X q) : EntsAt w' (inD M') a n l :=
  h.step k.ext (fun q hq _ => hq.elim .inl (fun e => .inr (hB q e))) k.inD

theorem idx_take {b : Int} {pl : List (List Int)} {k : Nat} {z : List Int} (h : pl[k]? = some z) : idxLays b (pl.take (k + 1)) = idxLays b (pl.take k) ++ [(b + k, z)] := by
  have hk : k < pl.length := (List.getElem?_eq_some_iff.1 h).1
  rw [List.take_add_one, h]
  show idxLays b (pl.take k ++ [z]) = _
  rw [idxLays_snoc, List.length_take, Nat.min_eq_left (by omega)]
theorem idx_stop {s : DS} {b : Int} {pl : List (List Int)} {k : Nat} (h : (s.lays (idxLays b (pl.take k))).1 ≠ 0) : s.lays (idxLays b pl) = s.lays (idxLays b (pl.take k)) ∧ s.laysN (idxLays b pl) = s.laysN (idxLays b (pl.take k)) := by
  have e : idxLays b pl = idxLays b (pl.take k) ++ idxLays (b + (pl.take k).length) (pl.drop k) := by
    conv => lhs; rw [← List.take_append_drop k pl]
    exact idxLays_append _ _ _
  rw [e]
  exact ⟨DS.lays_stop _ _ _ h, DS.laysN_stop _ _ _ h⟩
theorem postL_length {l : List Ent} {n : Nat} (hl : l.length = n) (h0 : 0 < n) (r no : Int) : (postL r no l).length = (2 + n * 98 + 63) / 64 := by
  unfold postL postN
  rw [List.length_map, List.length_range, hl, postN_eq h0]
  rfl

set_option maxRecDepth 100000 in
set_option maxHeartbeats 8000000 in
theorem layL_any {w : World} {M : Dom} {B : Nat → Prop} {d l mb : Nat} {s : DS} {L : LS} (h : Sys w M B d l mb s L) (ok : L.Ok s) (hu : s.up.length < 400000000) (ea : Option Addr) (n cap : Nat) (el : List Ent) (hE : EntsAt w (inD M) ea n el) (hn : n ≤ 60000) (hm : mayE el (L.H s) = true) :
    Calls Tryz.prog 72 #[.pointer (some ⟨l, 0, none⟩), .slice ea n cap] w fun e w' => e = .returned (.int .i64 (L.lay s el).1) ∧ Went w M B d l (L.lay s el) w' := by
  have h0 : 0 < n := by
    unfold mayE at hm
    rw [Bool.and_eq_true, decide_eq_true_eq, hE.len] at hm
    exact hm.2
  have hmem := mayE_mem hm
  have okr := ok.r
  have okl := ok.l
  have okn := ok.n1
  have oku := ok.u
  have okk := ok.k
  have hHle : (L.H s : Int) ≤ 4096 := by unfold LS.H; omega
  have HS := hid h
  have EH := hid hE
  have hix := fun k (hk : k < n) => hE.idx (cap := cap) hk
  have HEL := hid hE.len
  have hBX := hid (show ∀ q, B q → M.X q from fun q hq => (h.led.bx q hq).1)
  have PO := fun (W : World) (Bw : Below w.heap.size w W) => posting_any L.round (L.last + 1) ea n cap el (inD M) W (hE.below Bw (Nat.le_refl _)) (fun x hx => ⟨⟨(hmem x hx).1, by have := (hmem x hx).2.1; omega⟩, (hmem x hx).2.2⟩) h0 (by omega) (by omega) (by omega)
  obtain ⟨pl, hpl⟩ : ∃ pl, postL L.round (L.last + 1) el = pl := ⟨_, rfl⟩
  obtain ⟨np, hnp⟩ : ∃ np, pl.length = np := ⟨_, rfl⟩
  have hnpb : np ≤ 100000 := by rw [← hnp, ← hpl, postL_length hE.len h0]; omega
  rw [hpl] at PO
  have HPL := hid hpl
  have HNP := hid hnp
  have HMEM := hid hmem
  have HLL := hid (show L.leafLays el = idxLays (2 + L.used) pl by unfold LS.leafLays; rw [hpl])
  obtain ⟨c0, c1, -, c3, c4, c5, -⟩ := h.led.cells
  have lw := lt_of_cell c0
  have SB : ∀ W, Below w.heap.size w W → W.cell? ⟨l, 1, none⟩ = some (.int .i64 L.round) ∧ W.cell? ⟨l, 4, none⟩ = some (.int .i64 L.last) := fun W h => ⟨Below.cellAt h lw c1, Below.cellAt h lw c4⟩
  have sw : IntKind.i64.wrap (L.last + 1) = L.last + 1 := IntWalk.i64_in _ (by omega)
  have SW := hid sw
  clear h hE hm hmem hpl hnp ok
  go_enter Tryz.func72, Tryz.ntmps72
  go_wp2_with fail
  refine wp_region_held_drew (S := fun w' => w'.cell? ⟨l, 1, none⟩ = some (.int .i64 L.round) ∧ w'.cell? ⟨l, 4, none⟩ = some (.int .i64 L.last)) (by kernel_rfl) (SB _ ((Below.refl w.heap.size w).drew)) (fun hHeld => ?_)
  refine wpAnyH_take (i := 0) (v := ?v1) (by simp only [List.getElem?_toArray, List.getElem?_cons_zero]; rfl) (by kernel_rfl) (by kernel_rfl) (by kernel_rfl) (by exact fun _ _ _ h => h) (Or.inl ⟨by rfl, ?h1⟩) (by assumption) ?r1
  case h1 => (intro w hSw; (try dsimp only at hSw); go_simp; try with_reducible rfl)
  try simp only [Act.put, List.setIfInBounds_toArray, List.set_cons_zero, List.set_cons_succ]
  refine wpAnyH_take (i := 1) (v := ?v2) (by simp only [List.getElem?_toArray, List.getElem?_cons_zero, List.getElem?_cons_succ]; rfl) (by kernel_rfl) (by kernel_rfl) (by kernel_rfl) (by exact fun _ _ _ h => h) (Or.inl ⟨by rfl, ?h2⟩) (by assumption) ?r2
  case h2 => (intro w hSw; (try dsimp only at hSw); go_simp; try with_reducible rfl)
  try simp only [Act.put, List.setIfInBounds_toArray, List.set_cons_zero, List.set_cons_succ]
  refine wpAnyH_take (i := 2) (v := ?v3) (by simp only [List.getElem?_toArray, List.getElem?_cons_zero, List.getElem?_cons_succ]; rfl) (by kernel_rfl) (by kernel_rfl) (by kernel_rfl) (by exact fun _ _ _ h => h) (Or.inl ⟨by rfl, ?h3⟩) (by assumption) ?r3
  case h3 => (intro w hSw; (try dsimp only at hSw); go_simp; try with_reducible rfl)
  try simp only [Act.put, List.setIfInBounds_toArray, List.set_cons_zero, List.set_cons_succ]
  refine wpAnyH_take (i := 3) (v := ?v4) (by simp only [List.getElem?_toArray, List.getElem?_cons_zero, List.getElem?_cons_succ]; rfl) (by kernel_rfl) (by kernel_rfl) (by kernel_rfl) (by exact fun _ _ _ h => h) (Or.inl ⟨by rfl, ?h4⟩) (by assumption) ?r4
  case h4 => (intro w hSw; (try dsimp only at hSw); go_simp; try with_reducible rfl)
  try simp only [Act.put, List.setIfInBounds_toArray, List.set_cons_zero, List.set_cons_succ]
  refine wpAnyH_take (i := 4) (v := ?v5) (by simp only [List.getElem?_toArray, List.getElem?_cons_zero, List.getElem?_cons_succ]; rfl) (by kernel_rfl) (by kernel_rfl) (by kernel_rfl) (by exact fun _ _ _ h => h) (Or.inl ⟨by rfl, ?h5⟩) (by assumption) ?r5
  case h5 => (intro w hSw; (try dsimp only at hSw); go_simp; try with_reducible rfl)
  try simp only [Act.put, List.setIfInBounds_toArray, List.set_cons_zero, List.set_cons_succ]
  refine wpAnyH_take (i := 5) (v := ?v6) (by simp only [List.getElem?_toArray, List.getElem?_cons_zero, List.getElem?_cons_succ]; rfl) (by kernel_rfl) (by kernel_rfl) (by kernel_rfl) (by exact fun _ _ _ h => h) (Or.inl ⟨by rfl, ?h6⟩) (by assumption) ?r6
  case h6 => (intro w hSw; (try dsimp only at hSw); go_simp; try with_reducible rfl)
  try simp only [Act.put, List.setIfInBounds_toArray, List.set_cons_zero, List.set_cons_succ]
  refine wpAnyH_take (i := 6) (v := ?v7) (by simp only [List.getElem?_toArray, List.getElem?_cons_zero, List.getElem?_cons_succ]; rfl) (by kernel_rfl) (by kernel_rfl) (by kernel_rfl) (by exact fun _ _ _ h => h) (Or.inl ⟨by rfl, ?h7⟩) (by assumption) ?r7
  case h7 => (intro w hSw; (try dsimp only at hSw); go_simp; try with_reducible rfl)
  try simp only [Act.put, List.setIfInBounds_toArray, List.set_cons_zero, List.set_cons_succ]
  refine wpAnyH_take (i := 7) (v := ?v8) (by simp only [List.getElem?_toArray, List.getElem?_cons_zero, List.getElem?_cons_succ]; rfl) (by kernel_rfl) (by kernel_rfl) (by kernel_rfl) (by exact fun _ _ _ h => h) (Or.inl ⟨by rfl, ?h8⟩) (by assumption) ?r8
  case h8 => (intro w hSw; (try dsimp only at hSw); go_simp; try with_reducible rfl)
  try simp only [Act.put, List.setIfInBounds_toArray, List.set_cons_zero, List.set_cons_succ]
  refine wpAnyH_take (i := 8) (v := ?v9) (by simp only [List.getElem?_toArray, List.getElem?_cons_zero, List.getElem?_cons_succ]; rfl) (by kernel_rfl) (by kernel_rfl) (by kernel_rfl) (by exact fun _ _ _ h => h) (Or.inl ⟨by rfl, ?h9⟩) (by assumption) ?r9
  case h9 => (intro w hSw; (try dsimp only at hSw); go_simp; try with_reducible rfl)
  try simp only [Act.put, List.setIfInBounds_toArray, List.set_cons_zero, List.set_cons_succ]
  refine wpAnyH_take (i := 9) (v := ?v10) (by simp only [List.getElem?_toArray, List.getElem?_cons_zero, List.getElem?_cons_succ]; rfl) (by kernel_rfl) (by kernel_rfl) (by kernel_rfl) (by exact fun _ _ _ h => h) (Or.inl ⟨by rfl, ?h10⟩) (by assumption) ?r10
  case h10 => (intro w hSw; (try dsimp only at hSw); go_simp; try with_reducible rfl)
  try simp only [Act.put, List.setIfInBounds_toArray, List.set_cons_zero, List.set_cons_succ]
  refine wpAnyH_take (i := 10) (v := ?v11) (by simp only [List.getElem?_toArray, List.getElem?_cons_zero, List.getElem?_cons_succ]; rfl) (by kernel_rfl) (by kernel_rfl) (by kernel_rfl) (by exact fun _ _ _ h => h) (Or.inl ⟨by rfl, ?h11⟩) (by assumption) ?r11
  case h11 => (intro w hSw; (try dsimp only at hSw); go_simp; try with_reducible rfl)
  try simp only [Act.put, List.setIfInBounds_toArray, List.set_cons_zero, List.set_cons_succ]
  refine wpAnyH_take (i := 13) (v := ?v12) (by simp only [List.getElem?_toArray, List.getElem?_cons_zero, List.getElem?_cons_succ]; rfl) (by kernel_rfl) (by kernel_rfl) (by kernel_rfl) (by exact fun _ _ _ h => h) (Or.inl ⟨by rfl, ?h12⟩) (by assumption) ?r12
  case h12 => (intro w hSw; (try dsimp only at hSw); go_simp; try with_reducible rfl)
  try simp only [Act.put, List.setIfInBounds_toArray, List.set_cons_zero, List.set_cons_succ]
  refine wpAnyH_ready (rs := [11]) (by kernel_rfl) (by simp) ?_
  refine (AllReadyH.cons (by simp only [List.getElem?_toArray, List.getElem?_cons_zero, List.getElem?_cons_succ]; rfl) (fun K hK => ?_) AllReadyH.nil)
  go_simp
  go_at_call 98
  refine (PO _ ((Below.refl w.heap.size w).drew)).mono ?_
  rintro e wq13 ⟨v13, rfl, lv13, C13⟩
  have BB13 := ((Below.refl w.heap.size w).drew).trans (C13.mono (Below.size ((Below.refl w.heap.size w).drew)))
  refine hK.out _ _ (SB _ BB13) (fun hH14 => ?_)
  clear hK
  try simp only [Act.put, List.setIfInBounds_toArray, List.set_cons_zero, List.set_cons_succ]
  refine wpAnyH_ready (rs := [12]) (by kernel_rfl) (by simp) ?_
  refine (AllReadyH.cons (by simp only [List.getElem?_toArray, List.getElem?_cons_zero, List.getElem?_cons_succ]; rfl) (fun K hK => ?_) AllReadyH.nil)
  obtain ⟨pa, pc, hpv, LR, -, hpc, -, hpa⟩ := (lv13).out (N := inD M) (fun q hq _ => hq.elim (fun e => (HS.out.below ((Below.refl _ _).drew)).drum.ml q e) (fun e => (HS.out.below ((Below.refl _ _).drew)).drum.xl q e))
  rw [HNP.out] at hpv LR hpc hpa
  subst hpv
  go_simp
  refine hK.out _ _ (SB _ BB13) (fun hH15 => ?_)
  clear hK
  try simp only [Act.put, List.setIfInBounds_toArray, List.set_cons_zero, List.set_cons_succ]
  refine wpAnyH_done (by kernel_rfl) ?_ _
  have SY := hid (HS.out.below (BB13))
  have LS0 := hid (show LStep M B w M B wq13 from LStep.of_below (BB13))
  have LR0 := hid LR
  have E0 := hid (EH.out.below (BB13) (Nat.le_refl _))
  clear sw PO LR
  go_wp2_with fail
  go_loopw [23] (fun i wr => ∃ (k : Nat) (M1 : Dom), i = .int .i64 k ∧ k ≤ np ∧ Hid ((s.lays (idxLays (2 + L.used) (pl.take k))).1 = 0) ∧ Hid (Sys wr M1 B d l mb (s.lays (idxLays (2 + L.used) (pl.take k))).2 { L with used := L.used + k }) ∧ Hid (LStep M B w M1 B wr) ∧ Hid (LvRow wr (inD M1) pa np pl) ∧ Hid (EntsAt wr (inD M1) ea n el)) (fun i _ => np - (Go.RowKit.intOf i).toNat)
  case atStart => exact ⟨0, M, rfl, Nat.zero_le _, hid rfl, hid (by show Sys _ M B d l mb s { L with used := L.used + ((0 : Nat) : Int) }; rw [show L.used + ((0 : Nat) : Int) = L.used by simp]; exact SY.out), LS0, LR0, E0⟩
  case round =>
    obtain ⟨k, M1, rfl, hk, HC, SK, LK, LR, EK⟩ := hrel
    have hBX1 : ∀ q, B q → M1.X q := fun q hq => (SK.out.led.bx q hq).1
    by_cases hlt : k < np
    · have hixk := LR.out.idx (cap := pc) hlt
      obtain ⟨z, hx⟩ : ∃ x, pl[k]? = some x := ⟨_, List.getElem?_eq_getElem (by rw [HNP.out]; exact hlt)⟩
      obtain ⟨bz, cz, ez, rz, hz96, hzb, hcz, hzN⟩ := LR.out.cell k _ hx
      obtain ⟨d0, -, -, d3, -, -, -⟩ := SK.out.led.cells
      simp only at d3
      have hup : (s.lays (idxLays (2 + L.used) (pl.take k))).2.up.length < 1000000000 := by
        have := (DS.lays_n s (idxLays (2 + L.used) (pl.take k))).2
        rw [idxLays_length, List.length_take] at this
        omega
      have LA := fun (W : World) (Bw : Below wr.heap.size wr W) => lay_any (SK.out.below Bw).drum (2 + (L.used + (k : Int))) (some bz) 96 cz z (rz.below Bw (Nat.le_refl _)) hz96 hzb (fun h => by cases h) (fun _ hm => hzN (.inl hm)) hup
      obtain ⟨cd, hcd⟩ : ∃ cd, (s.lays (idxLays (2 + L.used) (pl.take k))).2.layCode (2 + (L.used + (k : Int))) z = cd := ⟨_, rfl⟩
      rw [hcd] at LA
      have HSN := hid (show s.lays (idxLays (2 + L.used) (pl.take (k + 1))) = (cd, (s.lays (idxLays (2 + L.used) (pl.take k))).2.lay (2 + (L.used + (k : Int))) z) by
        rw [idx_take hx, DS.lays_snoc _ _ _ HC.out]
        show ((s.lays (idxLays (2 + L.used) (pl.take k))).2.layCode (2 + L.used + (k : Int)) z, (s.lays (idxLays (2 + L.used) (pl.take k))).2.lay (2 + L.used + (k : Int)) z) = _
        rw [Int.add_assoc, hcd])
      have HSNN := hid (show s.laysN (idxLays (2 + L.used) (pl.take (k + 1))) = k + (if cd = 0 then 1 else 0) by
        rw [idx_take hx, DS.laysN_snoc _ _ _ HC.out, idxLays_length, List.length_take, Nat.min_eq_left (by rw [HNP.out]; omega)]
        show k + (if (s.lays (idxLays (2 + L.used) (pl.take k))).2.layCode (2 + L.used + (k : Int)) z = 0 then 1 else 0) = _
        rw [Int.add_assoc, hcd])
      have lwr := lt_of_cell d0
      have hM1l : ¬ M1 l := (SK.out.led.bx _ SK.out.led.bl).2
      have SC : ∀ W, Below wr.heap.size wr W → W.cell? ⟨l, 0, none⟩ = some (.pointer (some ⟨d, 0, none⟩)) ∧ W.cell? ⟨l, 3, none⟩ = some (.int .i64 (L.used + (k : Int))) := fun W h => ⟨Below.cellAt h lwr d0, Below.cellAt h lwr d3⟩
      have sw2 : IntKind.i64.wrap (2 + (L.used + (k : Int))) = 2 + (L.used + (k : Int)) := IntWalk.i64_in _ (by omega)
      have hBX2 := hid hBX1
      clear hx hz96 hzb hzN rz hcd hBX1
      go_wp2_with fail
      refine wp_region_held_drew (S := fun w' => w'.cell? ⟨l, 0, none⟩ = some (.pointer (some ⟨d, 0, none⟩)) ∧ w'.cell? ⟨l, 3, none⟩ = some (.int .i64 (L.used + (k : Int)))) (by kernel_rfl) (SC _ ((Below.refl wr.heap.size wr).drew)) (fun hHeld => ?_)
      refine wpAnyH_take (i := 0) (v := ?v16) (by simp only [List.getElem?_toArray, List.getElem?_cons_zero]; rfl) (by kernel_rfl) (by kernel_rfl) (by kernel_rfl) (by exact fun _ _ _ h => h) (Or.inl ⟨by rfl, ?h16⟩) (by assumption) ?r16
      case h16 => (intro w hSw; (try dsimp only at hSw); go_simp; try with_reducible rfl)
      try simp only [Act.put, List.setIfInBounds_toArray, List.set_cons_zero, List.set_cons_succ]
      refine wpAnyH_take (i := 1) (v := ?v17) (by simp only [List.getElem?_toArray, List.getElem?_cons_zero, List.getElem?_cons_succ]; rfl) (by kernel_rfl) (by kernel_rfl) (by kernel_rfl) (by exact fun _ _ _ h => h) (Or.inl ⟨by rfl, ?h17⟩) (by assumption) ?r17
      case h17 => (intro w hSw; (try dsimp only at hSw); go_simp; try with_reducible rfl)
      try simp only [Act.put, List.setIfInBounds_toArray, List.set_cons_zero, List.set_cons_succ]
      refine wpAnyH_take (i := 2) (v := ?v18) (by simp only [List.getElem?_toArray, List.getElem?_cons_zero, List.getElem?_cons_succ]; rfl) (by kernel_rfl) (by kernel_rfl) (by kernel_rfl) (by exact fun _ _ _ h => h) (Or.inl ⟨by rfl, ?h18⟩) (by assumption) ?r18
      case h18 => (intro w hSw; (try dsimp only at hSw); go_simp; try with_reducible rfl)
      try simp only [Act.put, List.setIfInBounds_toArray, List.set_cons_zero, List.set_cons_succ]
      refine wpAnyH_take (i := 3) (v := ?v19) (by simp only [List.getElem?_toArray, List.getElem?_cons_zero, List.getElem?_cons_succ]; rfl) (by kernel_rfl) (by kernel_rfl) (by kernel_rfl) (by exact fun _ _ _ h => h) (Or.inl ⟨by rfl, ?h19⟩) (by assumption) ?r19
      case h19 => (intro w hSw; (try dsimp only at hSw); go_simp; try with_reducible rfl)
      try simp only [Act.put, List.setIfInBounds_toArray, List.set_cons_zero, List.set_cons_succ]
      refine wpAnyH_take (i := 4) (v := ?v20) (by simp only [List.getElem?_toArray, List.getElem?_cons_zero, List.getElem?_cons_succ]; rfl) (by kernel_rfl) (by kernel_rfl) (by kernel_rfl) (by exact fun _ _ _ h => h) (Or.inl ⟨by rfl, ?h20⟩) (by assumption) ?r20
      case h20 => (intro w hSw; (try dsimp only at hSw); go_simp; try with_reducible rfl)
      try simp only [Act.put, List.setIfInBounds_toArray, List.set_cons_zero, List.set_cons_succ]
      refine wpAnyH_take (i := 5) (v := ?v21) (by simp only [List.getElem?_toArray, List.getElem?_cons_zero, List.getElem?_cons_succ]; rfl) (by kernel_rfl) (by kernel_rfl) (by kernel_rfl) (by exact fun _ _ _ h => h) (Or.inl ⟨by rfl, ?h21⟩) (by assumption) ?r21
      case h21 => (intro w hSw; (try dsimp only at hSw); go_simp; try with_reducible rfl)
      try simp only [Act.put, List.setIfInBounds_toArray, List.set_cons_zero, List.set_cons_succ]
      refine wpAnyH_take (i := 6) (v := ?v22) (by simp only [List.getElem?_toArray, List.getElem?_cons_zero, List.getElem?_cons_succ]; rfl) (by kernel_rfl) (by kernel_rfl) (by kernel_rfl) (by exact fun _ _ _ h => h) (Or.inl ⟨by rfl, ?h22⟩) (by assumption) ?r22
      case h22 => (intro w hSw; (try dsimp only at hSw); go_simp; try with_reducible rfl)
      try simp only [Act.put, List.setIfInBounds_toArray, List.set_cons_zero, List.set_cons_succ]
      refine wpAnyH_take (i := 7) (v := ?v23) (by simp only [List.getElem?_toArray, List.getElem?_cons_zero, List.getElem?_cons_succ]; rfl) (by kernel_rfl) (by kernel_rfl) (by kernel_rfl) (by exact fun _ _ _ h => h) (Or.inl ⟨by rfl, ?h23⟩) (by assumption) ?r23
      case h23 => (intro w hSw; (try dsimp only at hSw); go_simp; try with_reducible rfl)
      try simp only [Act.put, List.setIfInBounds_toArray, List.set_cons_zero, List.set_cons_succ]
      refine wpAnyH_take (i := 8) (v := ?v24) (by simp only [List.getElem?_toArray, List.getElem?_cons_zero, List.getElem?_cons_succ]; rfl) (by kernel_rfl) (by kernel_rfl) (by kernel_rfl) (by exact fun _ _ _ h => h) (Or.inl ⟨by rfl, ?h24⟩) (by assumption) ?r24
      case h24 => (intro w hSw; (try dsimp only at hSw); go_simp; try with_reducible rfl)
      try simp only [Act.put, List.setIfInBounds_toArray, List.set_cons_zero, List.set_cons_succ]
      refine wpAnyH_take (i := 9) (v := ?v25) (by simp only [List.getElem?_toArray, List.getElem?_cons_zero, List.getElem?_cons_succ]; rfl) (by kernel_rfl) (by kernel_rfl) (by kernel_rfl) (by exact fun _ _ _ h => h) (Or.inl ⟨by rfl, ?h25⟩) (by assumption) ?r25
      case h25 => (intro w hSw; (try dsimp only at hSw); go_simp; try with_reducible rfl)
      try simp only [Act.put, List.setIfInBounds_toArray, List.set_cons_zero, List.set_cons_succ]
      refine wpAnyH_ready (rs := [10]) (by kernel_rfl) (by simp) ?_
      refine (AllReadyH.cons (by simp only [List.getElem?_toArray, List.getElem?_cons_zero, List.getElem?_cons_succ]; rfl) (fun K hK => ?_) AllReadyH.nil)
      go_simp
      go_at_call 21
      refine (LA _ ((Below.refl wr.heap.size wr).drew)).mono ?_
      rintro e w8 ⟨rfl, M8, D8, S8⟩
      have SS8 := hid ((LStep.of_below (M := M1) (B := B) ((Below.refl wr.heap.size wr).drew)).trans (LStep.of_step S8))
      have Y8 := hid ((SK.out.below ((Below.refl wr.heap.size wr).drew)).step D8 S8)
      have Z8 := hid (LK.out.trans SS8.out)
      have LR8 := hid (LR.out.lstep SS8.out hBX2.out)
      have E8 := hid (EK.out.lstep SS8.out hBX2.out)
      refine hK.out _ _ ⟨S8.ext.cell hM1l (Below.cellAt ((Below.refl wr.heap.size wr).drew) lwr d0), S8.ext.cell hM1l (Below.cellAt ((Below.refl wr.heap.size wr).drew) lwr d3)⟩ (fun hH26 => ?_)
      clear hK
      try simp only [Act.put, List.setIfInBounds_toArray, List.set_cons_zero, List.set_cons_succ]
      refine wpAnyH_take (i := 11) (v := ?v27) (by simp only [List.getElem?_toArray, List.getElem?_cons_zero, List.getElem?_cons_succ]; rfl) (by kernel_rfl) (by kernel_rfl) (by kernel_rfl) (by exact fun _ _ _ h => h) (Or.inl ⟨by rfl, ?h27⟩) (by assumption) ?r27
      case h27 => (intro w hSw; (try dsimp only at hSw); go_simp; try with_reducible rfl)
      try simp only [Act.put, List.setIfInBounds_toArray, List.set_cons_zero, List.set_cons_succ]
      refine wpAnyH_done (by kernel_rfl) ?_ _
      clear D8 S8 LA SK LK LR EK SS8 sw2
      by_cases hc : cd = 0
      · have f1 := fun o => blk_free (o := o) Y8.out.led.obj
        obtain ⟨-, -, -, d3', -, -, -⟩ := Y8.out.led.cells
        simp only at d3'
        have Y9 := hid (show Sys (w8.setCell ⟨l, 3, none⟩ (.int .i64 (L.used + (k : Int) + 1))) M8 B d l mb (s.lays (idxLays (2 + L.used) (pl.take (k + 1)))).2 { L with used := L.used + ((k + 1 : Nat) : Int) } from by
          rw [HSN.out, show L.used + ((k + 1 : Nat) : Int) = L.used + (k : Int) + 1 by omega]
          exact Y8.out.put (o := 3) (v := .int .i64 (L.used + (k : Int) + 1)) (L' := { L with used := L.used + (k : Int) + 1 }) rfl rfl)
        have P9 := hid (LStep.put (w := w8) (M := M8) Y8.out.led.bl 3 (.int .i64 (L.used + (k : Int) + 1)))
        have hBX8 : ∀ q, B q → M8.X q := fun q hq => (Y8.out.led.bx q hq).1
        have Z9 := hid (Z8.out.trans P9.out)
        have LR9 := hid (LR8.out.lstep P9.out hBX8)
        have E9 := hid (E8.out.lstep P9.out hBX8)
        have HC9 := hid (show (s.lays (idxLays (2 + L.used) (pl.take (k + 1)))).1 = 0 by rw [HSN.out]; exact hc)
        clear hBX8 Y8
        subst hc
        go_wp2_with fail
        go_roundw
        case measure => simp [Go.RowKit.intOf]; omega
        case rel => exact ⟨k + 1, M8, by go_num, by omega, HC9, Y9, Z9, LR9, E9⟩
      · have hc1 : (cd != 0) = true := by simpa using hc
        obtain ⟨st1, st2⟩ := idx_stop (s := s) (b := 2 + L.used) (pl := pl) (k := k + 1) (by rw [HSN.out]; exact hc)
        have HLY := hid (show L.lay s el = (cd, { L with used := L.used + (k : Int) }, (s.lays (idxLays (2 + L.used) (pl.take k))).2.lay (2 + (L.used + (k : Int))) z) by
          unfold LS.lay
          rw [HLL.out, st1, st2, HSN.out, HSNN.out, if_neg hc, if_neg hc]
          rfl)
        clear st1 st2
        go_wp2_with fail
        go_ret
        exact ⟨by rw [HLY.out]; rfl, Went.of (by rw [HLY.out]; exact Y8.out) Z8.out⟩
    · obtain rfl : np = k := by omega
      have HF := hid (show pl.take np = pl by rw [List.take_of_length_le (by rw [HNP.out]; exact Nat.le_refl _)])
      rw [HF.out] at SK HC
      have HLY := hid (show L.lay s el = (0, { L with used := L.used + (L.leafLays el).length, last := L.last + 1, taken := putL L.taken el }, (s.lays (L.leafLays el)).2) by unfold LS.lay; rw [HLL.out, if_pos HC.out])
      have HLN := hid (show (L.leafLays el).length = np by rw [HLL.out, idxLays_length, HNP.out])
      have f1 := fun o => blk_free (o := o) SK.out.led.obj
      have Y6 := hid (SK.out.put (o := 4) (v := .int .i64 (L.last + 1)) (L' := { L with used := L.used + np, last := L.last + 1 }) rfl rfl)
      have Z6 := hid (LStep.put (w := wr) (M := M1) SK.out.led.bl 4 (.int .i64 (L.last + 1)))
      obtain ⟨-, -, -, -, d4, -, -⟩ := SK.out.led.cells
      simp only at d4
      have hBX2 := hid hBX1
      have E6 := hid (EK.out.lstep Z6.out hBX1)
      have Z7 := hid (LK.out.trans Z6.out)
      clear hBX1 SK LK LR EK
      obtain ⟨wo, hwo⟩ : ∃ wo : World, wr.setCell ⟨l, 4, none⟩ (.int .i64 (L.last + 1)) = wo := ⟨_, rfl⟩
      rw [hwo] at Y6 E6 Z7
      go_wp2_with fail
      go_loopw [58] (fun i wx => ∃ k : Nat, i = .int .i64 k ∧ k ≤ n ∧ Hid (Sys wx M1 B d l mb (s.lays (idxLays (2 + L.used) pl)).2 { L with used := L.used + np, last := L.last + 1, taken := putL L.taken (el.take k) }) ∧ Hid (LStep M B w M1 B wx) ∧ Hid (EntsAt wx (inD M1) ea n el)) (fun i _ => n - (Go.RowKit.intOf i).toNat)
      case atStart => exact ⟨0, rfl, Nat.zero_le _, Y6, Z7, E6⟩
      case round =>
        obtain ⟨k, rfl, hk, SY, SZ, EY⟩ := hrel
        by_cases hlt : k < n
        · have hixk := hix k hlt
          obtain ⟨⟨xa, xz⟩, hx⟩ : ∃ x, el[k]? = some x := ⟨_, List.getElem?_eq_getElem (by rw [HEL.out]; exact hlt)⟩
          have e0 := EY.out.c0 k _ hx
          obtain ⟨b, c, e1, rz, hzn, hzb, hzN⟩ := EY.out.c1 k _ hx
          obtain ⟨hm1, hm2, hm3⟩ := HMEM.out _ (List.mem_of_getElem? hx)
          simp only at e0 e1 rz hzn hzb hzN hm1 hm2 hm3
          rw [hm3] at e1
          have HPS := hid (putL_succ (t := L.taken) hx)
          obtain ⟨W1, hW1⟩ : ∃ W1, wr.alloc (.cells #[.int .i64 xa, .slice b 96 c] 100) = W1 := ⟨_, rfl⟩
          have BW1 : Below wr.heap.size wr W1 := by rw [← hW1]; exact (Below.refl _ _).alloc (Nat.le_refl _) _
          have x1 : W1.heap[wr.heap.size]? = some (.cells #[.int .i64 xa, .slice b 96 c] 100 (0, 0)) := by rw [← hW1]; exact blk_new _ _
          have hmbW := SY.out.led.bs _ SY.out.led.bm
          obtain ⟨xb, hxb⟩ : ∃ xb, wr.heap.size = xb := ⟨_, rfl⟩
          rw [hxb] at x1 hmbW
          have y0 : W1.cell? ⟨xb, 0, none⟩ = some (.int .i64 xa) := blk_cell x1 rfl
          have y1 : W1.cell? ⟨xb, 1, none⟩ = some (.slice b 96 c) := blk_cell x1 rfl
          have nxm : ¬ (xb = mb) := by omega
          have lxb : xb < W1.heap.size := lt_of_blk x1
          have SY1 := hid (SY.out.below BW1)
          have SY2 := hid (SZ.out.trans (LStep.of_below (M := M1) (B := B) BW1))
          have EO1 := hid (EY.out.below BW1 (Nat.le_refl _))
          have RZ1 := hid (rz.below BW1 (Nat.le_refl _))
          have BN1 := hid (show b = none → 96 = 0 from fun e => by rw [(hzn e).1] at hm3; simp at hm3)
          have HZB := hid hzb
          have HM3 := hid hm3
          obtain ⟨-, -, -, -, -, f5, -⟩ := SY1.out.led.cells
          have lwl : l < W1.heap.size := SY1.out.led.bs _ SY1.out.led.bl
          have nlm : ¬ (l = mb) := fun e => by
            obtain ⟨V, t1, -⟩ := SY1.out.led.tkn.out
            obtain ⟨es, cl, t2⟩ := t1.blk
            rw [← e, SY1.out.led.obj] at t2
            cases t2
          have XMB : M1.X mb := (SY1.out.led.bx _ SY1.out.led.bm).1
          have SD : ∀ W, Below W1.heap.size W1 W → W.cell? ⟨l, 5, none⟩ = some (.map (some mb)) ∧ W.cell? ⟨xb, 0, none⟩ = some (.int .i64 xa) ∧ W.cell? ⟨xb, 1, none⟩ = some (.slice b 96 c) := fun W h => ⟨Below.cellAt h lwl f5, Below.cellAt h lxb y0, Below.cellAt h lxb y1⟩
          have hx4 : 0 ≤ xa ∧ xa < 4096 := ⟨hm1, by omega⟩
          clear hx x1 rz hzn hzb hzN SY SZ EY BW1 hm3 hm1 hm2
          go_wp2_with fail
          refine wp_region_held_drew (S := fun w' => w'.cell? ⟨l, 5, none⟩ = some (.map (some mb)) ∧ w'.cell? ⟨xb, 0, none⟩ = some (.int .i64 xa) ∧ w'.cell? ⟨xb, 1, none⟩ = some (.slice b 96 c)) (by kernel_rfl) (SD _ ((Below.refl W1.heap.size W1).drew)) (fun hHeld => ?_)
          refine wpAnyH_take (i := 0) (v := ?v28) (by simp only [List.getElem?_toArray, List.getElem?_cons_zero]; rfl) (by kernel_rfl) (by kernel_rfl) (by kernel_rfl) (by exact fun _ _ _ h => h) (Or.inl ⟨by rfl, ?h28⟩) (by assumption) ?r28
          case h28 => (intro w hSw; (try dsimp only at hSw); go_simp; try with_reducible rfl)
          try simp only [Act.put, List.setIfInBounds_toArray, List.set_cons_zero, List.set_cons_succ]
          refine wpAnyH_take (i := 1) (v := ?v29) (by simp only [List.getElem?_toArray, List.getElem?_cons_zero, List.getElem?_cons_succ]; rfl) (by kernel_rfl) (by kernel_rfl) (by kernel_rfl) (by exact fun _ _ _ h => h) (Or.inl ⟨by rfl, ?h29⟩) (by assumption) ?r29
          case h29 => (intro w hSw; (try dsimp only at hSw); go_simp; try with_reducible rfl)
          try simp only [Act.put, List.setIfInBounds_toArray, List.set_cons_zero, List.set_cons_succ]
          refine wpAnyH_take (i := 2) (v := ?v30) (by simp only [List.getElem?_toArray, List.getElem?_cons_zero, List.getElem?_cons_succ]; rfl) (by kernel_rfl) (by kernel_rfl) (by kernel_rfl) (by exact fun _ _ _ h => h) (Or.inl ⟨by rfl, ?h30⟩) (by assumption) ?r30
          case h30 => (intro w hSw; (try dsimp only at hSw); go_simp; try with_reducible rfl)
          try simp only [Act.put, List.setIfInBounds_toArray, List.set_cons_zero, List.set_cons_succ]
          refine wpAnyH_take (i := 3) (v := ?v31) (by simp only [List.getElem?_toArray, List.getElem?_cons_zero, List.getElem?_cons_succ]; rfl) (by kernel_rfl) (by kernel_rfl) (by kernel_rfl) (by exact fun _ _ _ h => h) (Or.inl ⟨by rfl, ?h31⟩) (by assumption) ?r31
          case h31 => (intro w hSw; (try dsimp only at hSw); go_simp; try with_reducible rfl)
          try simp only [Act.put, List.setIfInBounds_toArray, List.set_cons_zero, List.set_cons_succ]
          refine wpAnyH_take (i := 4) (v := ?v32) (by simp only [List.getElem?_toArray, List.getElem?_cons_zero, List.getElem?_cons_succ]; rfl) (by kernel_rfl) (by kernel_rfl) (by kernel_rfl) (by exact fun _ _ _ h => h) (Or.inl ⟨by rfl, ?h32⟩) (by assumption) ?r32
          case h32 => (intro w hSw; (try dsimp only at hSw); go_simp; try with_reducible rfl)
          try simp only [Act.put, List.setIfInBounds_toArray, List.set_cons_zero, List.set_cons_succ]
          refine wpAnyH_take (i := 5) (v := ?v33) (by simp only [List.getElem?_toArray, List.getElem?_cons_zero, List.getElem?_cons_succ]; rfl) (by kernel_rfl) (by kernel_rfl) (by kernel_rfl) (by exact fun _ _ _ h => h) (Or.inl ⟨by rfl, ?h33⟩) (by assumption) ?r33
          case h33 => (intro w hSw; (try dsimp only at hSw); go_simp; try with_reducible rfl)
          try simp only [Act.put, List.setIfInBounds_toArray, List.set_cons_zero, List.set_cons_succ]
          refine wpAnyH_take (i := 6) (v := ?v34) (by simp only [List.getElem?_toArray, List.getElem?_cons_zero, List.getElem?_cons_succ]; rfl) (by kernel_rfl) (by kernel_rfl) (by kernel_rfl) (by exact fun _ _ _ h => h) (Or.inl ⟨by rfl, ?h34⟩) (by assumption) ?r34
          case h34 => (intro w hSw; (try dsimp only at hSw); go_simp; try with_reducible rfl)
          try simp only [Act.put, List.setIfInBounds_toArray, List.set_cons_zero, List.set_cons_succ]
          refine wpAnyH_take (i := 7) (v := ?v35) (by simp only [List.getElem?_toArray, List.getElem?_cons_zero, List.getElem?_cons_succ]; rfl) (by kernel_rfl) (by kernel_rfl) (by kernel_rfl) (by exact fun _ _ _ h => h) (Or.inl ⟨by rfl, ?h35⟩) (by assumption) ?r35
          case h35 => (intro w hSw; (try dsimp only at hSw); go_simp; try with_reducible rfl)
          try simp only [Act.put, List.setIfInBounds_toArray, List.set_cons_zero, List.set_cons_succ]
          refine wpAnyH_ready (rs := [8]) (by kernel_rfl) (by simp) ?_
          refine (AllReadyH.cons (by simp only [List.getElem?_toArray, List.getElem?_cons_zero, List.getElem?_cons_succ]; rfl) (fun K hK => ?_) AllReadyH.nil)
          go_simp
          go_at_call 43
          refine (cloneB_any b 96 c xz _ ((Row.keep RZ1.out (w' := W1.drew) (fun _ => rfl))) HM3.out BN1.out (by decide)).mono ?_
          rintro e wq36 ⟨v36, rfl, o36, C36⟩
          obtain ⟨b36, c36, e836, rr36, -, cc36, lo36⟩ := own96 o36
          subst e836
          have BB36 := ((Below.refl W1.heap.size W1).drew).trans (C36.mono (Below.size ((Below.refl W1.heap.size W1).drew)))
          refine hK.out _ _ (SD _ BB36) (fun hH37 => ?_)
          clear hK
          try simp only [Act.put, List.setIfInBounds_toArray, List.set_cons_zero, List.set_cons_succ]
          refine wpAnyH_ready (rs := [9]) (by kernel_rfl) (by simp) ?_
          refine (AllReadyH.cons (by simp only [List.getElem?_toArray, List.getElem?_cons_zero, List.getElem?_cons_succ]; rfl) (fun K hK => ?_) AllReadyH.nil)
          have TRK : Trk wq36 M1 (.slice (some b36) 96 c36) xz := ⟨b36, c36, rfl, rr36, HM3.out, fun hm => by have h7 := hm.elim (SY1.out.drum.ml _) (SY1.out.drum.xl _); have h8 : W1.heap.size ≤ b36.block := lo36; omega, HZB.out, cc36⟩
          have SYq := hid (SY1.out.below (BB36))
          obtain ⟨wm, hrun, TK, kx⟩ := SYq.out.led.tkn.store (x := (xa, xz)) TRK hx4 XMB
          simp only at hrun
          go_simp
          refine hK.out _ _ ⟨kx.cell nlm (Below.cellAt (BB36) lwl f5), kx.cell nxm (Below.cellAt (BB36) lxb y0), kx.cell nxm (Below.cellAt (BB36) lxb y1)⟩ (fun hH38 => ?_)
          clear hK
          try simp only [Act.put, List.setIfInBounds_toArray, List.set_cons_zero, List.set_cons_succ]
          refine wpAnyH_done (by kernel_rfl) ?_ _
          have SYN := SYq.out.tknPut kx TK
          have SN := hid (show Sys wm M1 B d l mb (s.lays (idxLays (2 + L.used) pl)).2 { L with used := L.used + np, last := L.last + 1, taken := putL L.taken (el.take (k + 1)) } by rw [HPS.out]; exact SYN.1)
          have LBm := hid ((LStep.of_below (M := M1) (B := B) (BB36)).trans SYN.2)
          have SL := hid (SY2.out.trans LBm.out)
          have EN := hid (EO1.out.lstep LBm.out hBX2.out)
          clear TK kx SYN hrun TRK SYq
          go_wp2_with fail
          go_roundw
          case measure => simp [Go.RowKit.intOf]; omega
          case rel => exact ⟨k + 1, by go_num, by omega, SN, SL, EN⟩
        · obtain rfl : n = k := by omega
          have HFE := hid (show el.take n = el by rw [List.take_of_length_le (by rw [HEL.out]; exact Nat.le_refl _)])
          rw [HFE.out] at SY
          go_wp2_with fail
          go_ret
          exact ⟨by rw [HLY.out]; rfl, Went.of (by rw [HLY.out, HLN.out, HLL.out]; exact SY.out) SZ.out⟩

end Go.Proofs.YtleoelhhndeheaaGreat

/- package ledger: Look, Write, Open -/
open Go Go.RowKit
namespace Go.Proofs.YtleoelhhndeheaaGreat

/-- a ledger behind a look -/
def LS.lookL (L : LS) (s : DS) (k : Int) : LS := if 0 ≤ k ∧ k < L.H s ∧ L.lost = false ∧ L.taken k = none ∧ s.broken = true then L.ends 4 else L
def LookAns (w : World) (M : Dom) (B : Nat → Prop) (d l mb : Nat) (s : DS) (L : LS) (k : Int) (e : Ending) (w' : World) : Prop :=
  ∃ a n c, e = .returned (.tuple #[.slice a n c, .int .i64 (L.lookC s k)]) ∧ w'.ownsRow w.heap.size 5 1 (.slice a n c) n (B8 (L.lookZ s k)) ∧ IsBytes (L.lookZ s k) ∧ Sys w' M B d l mb s (L.lookL s k) ∧ LStep M B w M B w'
theorem nil_bytes {z : List Int} (h : z = []) : IsBytes z := by subst h; intro n hn; cases hn
theorem ends_zero (L : LS) : L.ends 0 = L := by
  unfold LS.ends
  rw [show decide ((0 : Int) = 4) = false from rfl, Bool.or_false]
theorem TknAt.at {w : World} {M : Dom} {mb : Nat} {T : Tkn} (h : TknAt w M mb T) {k : Int} (hk : -1000000 ≤ k ∧ k ≤ 1000000) :
    (T k = none ∧ (Instr.lookup 65 (.map (some mb)) (.int .i64 k) true).run Tryz.prog w = .ok (.tuple #[.slice none 0 0, .bool false]) w) ∨
      ∃ v zs, T k = some zs ∧ Trk w M v zs ∧ (Instr.lookup 65 (.map (some mb)) (.int .i64 k) true).run Tryz.prog w = .ok (.tuple #[v, .bool true]) w := by
  obtain ⟨V, h1, h2⟩ := h.out
  have lk := h1.look_ok Tryz.underlying65 (zP w) (x := k) (by omega)
  rcases h2 k with ⟨e1, e2⟩ | ⟨v, zs, e1, e2, e3⟩
  · rw [e1] at lk
    exact .inl ⟨e2, lk⟩
  · rw [e1] at lk
    exact .inr ⟨v, zs, e2, e3, lk⟩

set_option maxRecDepth 100000 in
set_option maxHeartbeats 8000000 in
theorem lookL_any {w : World} {M : Dom} {B : Nat → Prop} {d l mb : Nat} {s : DS} {L : LS} (h : Sys w M B d l mb s L) (ok : L.Ok s) (k : Int) (hk : -1000000 ≤ k ∧ k ≤ 1000000) :
    Calls Tryz.prog 76 #[.pointer (some ⟨l, 0, none⟩), .int .i64 k] w (LookAns w M B d l mb s L k) := by
  have HS := hid h
  have okl := ok.l
  have okn := ok.n1
  have OKT := hid ok.t
  have OKZ := hid ok.z
  obtain ⟨H, hH, hH2⟩ : ∃ H : Nat, L.H s = H ∧ (H : Int) + (2 + L.leaves) = s.n := ⟨_, rfl, by unfold LS.H; omega⟩
  have HHH := hid hH
  have HA := home_any h ok.lv
  rw [hH] at HA
  have HO := fun (W : World) (Bw : Below w.heap.size w W) => homeAt_any (h.below Bw) ok.lv k hk
  obtain ⟨c0, -, -, -, -, c5, c6⟩ := h.led.cells
  have lw := lt_of_cell c0
  have TA := h.led.tkn.at hk
  by_cases hk0 : k < 0
  · have HC := hid (show L.lookC s k = 1 by unfold LS.lookC; rw [if_neg (by omega)])
    have HZ := hid (show L.lookZ s k = [] by unfold LS.lookZ; rw [HC.out]; rfl)
    have HL := hid (show L.lookL s k = L by unfold LS.lookL; rw [if_neg (by omega)])
    clear h TA ok hH
    go_enter Tryz.func76, Tryz.ntmps76
    go_wp2_with fail
    go_ret2
    exact ⟨none, 0, 0, by rw [HC.out]; rfl, by rw [HZ.out]; exact World.ownsRow_nil _ _ _ _, nil_bytes HZ.out, by rw [HL.out]; exact HS.out, LStep.refl _ _ _⟩
  · by_cases hkH : k < (H : Int)
    · have hge : decide ((H : Int) ≤ k) = false := decide_eq_false (by omega)
      obtain ⟨lo, hlo⟩ : ∃ lo, L.lost = lo := ⟨_, rfl⟩
      rw [hlo] at c6
      have HLO := hid hlo
      clear hlo
      have HIN := hid (show 0 ≤ k ∧ k < L.H s by rw [hH]; omega)
      cases lo with
      | true =>
        have HC := hid (show L.lookC s k = 4 by unfold LS.lookC; rw [if_pos HIN.out, HLO.out]; rfl)
        have HZ := hid (show L.lookZ s k = [] by unfold LS.lookZ; rw [HC.out]; rfl)
        have HL := hid (show L.lookL s k = L by unfold LS.lookL; rw [if_neg]; rintro ⟨-, -, e, -⟩; rw [HLO.out] at e; cases e)
        clear h TA ok hH
        go_enter Tryz.func76, Tryz.ntmps76
        go_wp2_with fail
        refine HA.mono ?_
        rintro e w1 ⟨rfl, rfl⟩
        clear HA HO
        go_wp2_with fail
        go_ret2
        exact ⟨none, 0, 0, by rw [HC.out]; rfl, by rw [HZ.out]; exact World.ownsRow_nil _ _ _ _, nil_bytes HZ.out, by rw [HL.out]; exact HS.out, LStep.refl _ _ _⟩
      | false =>
        rcases TA with ⟨ht, lk⟩ | ⟨v, zs, ht, ⟨ta, tc, rfl, tr, t96, tM, tby, tcc⟩, lk⟩
        · have hkn : (2 + L.leaves + k).toNat < s.n := by omega
          have hkc : ((2 + L.leaves + k).toNat : Int) = 2 + L.leaves + k := by omega
          obtain ⟨br, hbr⟩ : ∃ br, s.broken = br := ⟨_, rfl⟩
          have SB : ∀ W, Below w.heap.size w W → W.cell? ⟨l, 0, none⟩ = some (.pointer (some ⟨d, 0, none⟩)) ∧ True := fun W h => ⟨Below.cellAt h lw c0, trivial⟩
          cases br with
          | true =>
            have HC := hid (show L.lookC s k = 4 by unfold LS.lookC; rw [if_pos HIN.out, HLO.out, ht, hbr]; rfl)
            have HZ := hid (show L.lookZ s k = [] by unfold LS.lookZ; rw [HC.out]; rfl)
            have HL := hid (show L.lookL s k = L.ends 4 by unfold LS.lookL; rw [if_pos ⟨HIN.out.1, HIN.out.2, HLO.out, ht, hbr⟩])
            have LK := fun (W : World) (Bw : Below w.heap.size w W) => look_down (h.drum.below Bw) hbr (2 + L.leaves + k).toNat hkn
            rw [hkc] at LK
            have HKC := hid hkc
            clear h ok hH ht hbr hkc hkn
            go_enter Tryz.func76, Tryz.ntmps76
            go_wp2_with fail
            refine HA.mono ?_
            rintro e w1 ⟨rfl, rfl⟩
            clear HA
            go_wp2_with fail
            refine wp_region_held_drew (S := fun w' => w'.cell? ⟨l, 0, none⟩ = some (.pointer (some ⟨d, 0, none⟩)) ∧ True) (by kernel_rfl) (SB _ ((Below.refl w.heap.size w).drew)) (fun hHeld => ?_)
            refine wpAnyH_take (i := 0) (v := ?v1) (by simp only [List.getElem?_toArray, List.getElem?_cons_zero]; rfl) (by kernel_rfl) (by kernel_rfl) (by kernel_rfl) (by exact fun _ _ _ h => h) (Or.inl ⟨by rfl, ?h1⟩) (by assumption) ?r1
            case h1 => (intro w hSw; (try dsimp only at hSw); go_simp; try with_reducible rfl)
            try simp only [Act.put, List.setIfInBounds_toArray, List.set_cons_zero, List.set_cons_succ]
            refine wpAnyH_take (i := 1) (v := ?v2) (by simp only [List.getElem?_toArray, List.getElem?_cons_zero, List.getElem?_cons_succ]; rfl) (by kernel_rfl) (by kernel_rfl) (by kernel_rfl) (by exact fun _ _ _ h => h) (Or.inl ⟨by rfl, ?h2⟩) (by assumption) ?r2
            case h2 => (intro w hSw; (try dsimp only at hSw); go_simp; try with_reducible rfl)
            try simp only [Act.put, List.setIfInBounds_toArray, List.set_cons_zero, List.set_cons_succ]
            refine wpAnyH_take (i := 2) (v := ?v3) (by simp only [List.getElem?_toArray, List.getElem?_cons_zero, List.getElem?_cons_succ]; rfl) (by kernel_rfl) (by kernel_rfl) (by kernel_rfl) (by exact fun _ _ _ h => h) (Or.inl ⟨by rfl, ?h3⟩) (by assumption) ?r3
            case h3 => (intro w hSw; (try dsimp only at hSw); go_simp; try with_reducible rfl)
            try simp only [Act.put, List.setIfInBounds_toArray, List.set_cons_zero, List.set_cons_succ]
            refine wpAnyH_take (i := 3) (v := ?v4) (by simp only [List.getElem?_toArray, List.getElem?_cons_zero, List.getElem?_cons_succ]; rfl) (by kernel_rfl) (by kernel_rfl) (by kernel_rfl) (by exact fun _ _ _ h => h) (Or.inl ⟨by rfl, ?h4⟩) (by assumption) ?r4
            case h4 => (intro w hSw; (try dsimp only at hSw); go_simp; try with_reducible rfl)
            try simp only [Act.put, List.setIfInBounds_toArray, List.set_cons_zero, List.set_cons_succ]
            refine wpAnyH_take (i := 4) (v := ?v5) (by simp only [List.getElem?_toArray, List.getElem?_cons_zero, List.getElem?_cons_succ]; rfl) (by kernel_rfl) (by kernel_rfl) (by kernel_rfl) (by exact fun _ _ _ h => h) (Or.inl ⟨by rfl, ?h5⟩) (by assumption) ?r5
            case h5 => (intro w hSw; (try dsimp only at hSw); go_simp; try with_reducible rfl)
            try simp only [Act.put, List.setIfInBounds_toArray, List.set_cons_zero, List.set_cons_succ]
            refine wpAnyH_take (i := 5) (v := ?v6) (by simp only [List.getElem?_toArray, List.getElem?_cons_zero, List.getElem?_cons_succ]; rfl) (by kernel_rfl) (by kernel_rfl) (by kernel_rfl) (by exact fun _ _ _ h => h) (Or.inl ⟨by rfl, ?h6⟩) (by assumption) ?r6
            case h6 => (intro w hSw; (try dsimp only at hSw); go_simp; try with_reducible rfl)
            try simp only [Act.put, List.setIfInBounds_toArray, List.set_cons_zero, List.set_cons_succ]
            refine wpAnyH_ready (rs := [6]) (by kernel_rfl) (by simp) ?_
            refine (AllReadyH.cons (by simp only [List.getElem?_toArray, List.getElem?_cons_zero, List.getElem?_cons_succ]; rfl) (fun K hK => ?_) AllReadyH.nil)
            go_simp
            go_at_call 87
            refine (HO _ ((Below.refl w.heap.size w).drew)).mono ?_
            rintro e wq7 ⟨rfl, rfl⟩
            refine hK.out _ _ (SB _ (Below.refl w.heap.size w).drew) (fun hH8 => ?_)
            clear hK
            try simp only [Act.put, List.setIfInBounds_toArray, List.set_cons_zero, List.set_cons_succ]
            refine wpAnyH_ready (rs := [7]) (by kernel_rfl) (by simp) ?_
            refine (AllReadyH.cons (by simp only [List.getElem?_toArray, List.getElem?_cons_zero, List.getElem?_cons_succ]; rfl) (fun K hK => ?_) AllReadyH.nil)
            go_simp
            go_at_call 20
            refine (LK _ ((Below.refl w.heap.size w).drew)).mono ?_
            rintro e wq9 ⟨rfl, C9⟩
            have BB9 := ((Below.refl w.heap.size w).drew).trans (C9.mono (Below.size ((Below.refl w.heap.size w).drew)))
            refine hK.out _ _ (SB _ BB9) (fun hH10 => ?_)
            clear hK
            try simp only [Act.put, List.setIfInBounds_toArray, List.set_cons_zero, List.set_cons_succ]
            refine wpAnyH_take (i := 8) (v := ?v11) (by simp only [List.getElem?_toArray, List.getElem?_cons_zero, List.getElem?_cons_succ]; rfl) (by kernel_rfl) (by kernel_rfl) (by kernel_rfl) (by exact fun _ _ _ h => h) (Or.inl ⟨by rfl, ?h11⟩) (by assumption) ?r11
            case h11 => (intro w hSw; (try dsimp only at hSw); go_simp; try with_reducible rfl)
            try simp only [Act.put, List.setIfInBounds_toArray, List.set_cons_zero, List.set_cons_succ]
            refine wpAnyH_take (i := 9) (v := ?v12) (by simp only [List.getElem?_toArray, List.getElem?_cons_zero, List.getElem?_cons_succ]; rfl) (by kernel_rfl) (by kernel_rfl) (by kernel_rfl) (by exact fun _ _ _ h => h) (Or.inl ⟨by rfl, ?h12⟩) (by assumption) ?r12
            case h12 => (intro w hSw; (try dsimp only at hSw); go_simp; try with_reducible rfl)
            try simp only [Act.put, List.setIfInBounds_toArray, List.set_cons_zero, List.set_cons_succ]
            refine wpAnyH_take (i := 10) (v := ?v13) (by simp only [List.getElem?_toArray, List.getElem?_cons_zero, List.getElem?_cons_succ]; rfl) (by kernel_rfl) (by kernel_rfl) (by kernel_rfl) (by exact fun _ _ _ h => h) (Or.inl ⟨by rfl, ?h13⟩) (by assumption) ?r13
            case h13 => (intro w hSw; (try dsimp only at hSw); go_simp; try with_reducible rfl)
            try simp only [Act.put, List.setIfInBounds_toArray, List.set_cons_zero, List.set_cons_succ]
            refine wpAnyH_take (i := 11) (v := ?v14) (by simp only [List.getElem?_toArray, List.getElem?_cons_zero, List.getElem?_cons_succ]; rfl) (by kernel_rfl) (by kernel_rfl) (by kernel_rfl) (by exact fun _ _ _ h => h) (Or.inl ⟨by rfl, ?h14⟩) (by assumption) ?r14
            case h14 => (intro w hSw; (try dsimp only at hSw); go_simp; try with_reducible rfl)
            try simp only [Act.put, List.setIfInBounds_toArray, List.set_cons_zero, List.set_cons_succ]
            refine wpAnyH_take (i := 12) (v := ?v15) (by simp only [List.getElem?_toArray, List.getElem?_cons_zero, List.getElem?_cons_succ]; rfl) (by kernel_rfl) (by kernel_rfl) (by kernel_rfl) (by exact fun _ _ _ h => h) (Or.inl ⟨by rfl, ?h15⟩) (by assumption) ?r15
            case h15 => (intro w hSw; (try dsimp only at hSw); go_simp; try with_reducible rfl)
            try simp only [Act.put, List.setIfInBounds_toArray, List.set_cons_zero, List.set_cons_succ]
            refine wpAnyH_done (by kernel_rfl) ?_ _
            have S2 := hid (HS.out.below (BB9))
            have L2 := hid (show LStep M B w M B wq9 from LStep.of_below (BB9))
            have EN := ends_any S2.out 4
            go_wp2_with fail
            refine EN.mono ?_
            rintro e w7 ⟨rfl, Y7, Z7⟩
            have Y7H := hid Y7
            have Z7H := hid (L2.out.trans Z7)
            clear EN Y7 Z7
            go_wp2_with fail
            go_ret2
            exact ⟨none, 0, 0, by rw [HC.out]; rfl, by rw [HZ.out]; exact World.ownsRow_nil _ _ _ _, nil_bytes HZ.out, by rw [HL.out]; exact Y7H.out, Z7H.out⟩
          | false =>
            have HC := hid (show L.lookC s k = 0 by unfold LS.lookC; rw [if_pos HIN.out, HLO.out, ht, hbr]; rfl)
            have HZ := hid (show L.lookZ s k = s.now (2 + L.leaves + k).toNat by unfold LS.lookZ; rw [HC.out, ht]; rfl)
            have HL := hid (show L.lookL s k = L by unfold LS.lookL; rw [if_neg]; rintro ⟨-, -, -, -, e⟩; rw [hbr] at e; cases e)
            have LK := fun (W : World) (Bw : Below w.heap.size w W) => look_up (h.drum.below Bw) hbr (2 + L.leaves + k).toNat hkn
            rw [hkc] at LK
            have HKC := hid hkc
            obtain ⟨zz, hzz⟩ : ∃ zz, s.now (2 + L.leaves + k).toNat = zz := ⟨_, rfl⟩
            rw [hzz] at LK
            have HZZ := hid (HZ.out.trans hzz)
            clear h ok hH ht hbr hkc hkn hzz
            go_enter Tryz.func76, Tryz.ntmps76
            go_wp2_with fail
            refine HA.mono ?_
            rintro e w1 ⟨rfl, rfl⟩
            clear HA
            go_wp2_with fail
            refine wp_region_held_drew (S := fun w' => w'.cell? ⟨l, 0, none⟩ = some (.pointer (some ⟨d, 0, none⟩)) ∧ True) (by kernel_rfl) (SB _ ((Below.refl w.heap.size w).drew)) (fun hHeld => ?_)
            refine wpAnyH_take (i := 0) (v := ?v16) (by simp only [List.getElem?_toArray, List.getElem?_cons_zero]; rfl) (by kernel_rfl) (by kernel_rfl) (by kernel_rfl) (by exact fun _ _ _ h => h) (Or.inl ⟨by rfl, ?h16⟩) (by assumption) ?r16
            case h16 => (intro w hSw; (try dsimp only at hSw); go_simp; try with_reducible rfl)
            try simp only [Act.put, List.setIfInBounds_toArray, List.set_cons_zero, List.set_cons_succ]
            refine wpAnyH_take (i := 1) (v := ?v17) (by simp only [List.getElem?_toArray, List.getElem?_cons_zero, List.getElem?_cons_succ]; rfl) (by kernel_rfl) (by kernel_rfl) (by kernel_rfl) (by exact fun _ _ _ h => h) (Or.inl ⟨by rfl, ?h17⟩) (by assumption) ?r17
            case h17 => (intro w hSw; (try dsimp only at hSw); go_simp; try with_reducible rfl)
            try simp only [Act.put, List.setIfInBounds_toArray, List.set_cons_zero, List.set_cons_succ]
            refine wpAnyH_take (i := 2) (v := ?v18) (by simp only [List.getElem?_toArray, List.getElem?_cons_zero, List.getElem?_cons_succ]; rfl) (by kernel_rfl) (by kernel_rfl) (by kernel_rfl) (by exact fun _ _ _ h => h) (Or.inl ⟨by rfl, ?h18⟩) (by assumption) ?r18
            case h18 => (intro w hSw; (try dsimp only at hSw); go_simp; try with_reducible rfl)
            try simp only [Act.put, List.setIfInBounds_toArray, List.set_cons_zero, List.set_cons_succ]
            refine wpAnyH_take (i := 3) (v := ?v19) (by simp only [List.getElem?_toArray, List.getElem?_cons_zero, List.getElem?_cons_succ]; rfl) (by kernel_rfl) (by kernel_rfl) (by kernel_rfl) (by exact fun _ _ _ h => h) (Or.inl ⟨by rfl, ?h19⟩) (by assumption) ?r19
            case h19 => (intro w hSw; (try dsimp only at hSw); go_simp; try with_reducible rfl)
            try simp only [Act.put, List.setIfInBounds_toArray, List.set_cons_zero, List.set_cons_succ]
            refine wpAnyH_take (i := 4) (v := ?v20) (by simp only [List.getElem?_toArray, List.getElem?_cons_zero, List.getElem?_cons_succ]; rfl) (by kernel_rfl) (by kernel_rfl) (by kernel_rfl) (by exact fun _ _ _ h => h) (Or.inl ⟨by rfl, ?h20⟩) (by assumption) ?r20
            case h20 => (intro w hSw; (try dsimp only at hSw); go_simp; try with_reducible rfl)
            try simp only [Act.put, List.setIfInBounds_toArray, List.set_cons_zero, List.set_cons_succ]
            refine wpAnyH_take (i := 5) (v := ?v21) (by simp only [List.getElem?_toArray, List.getElem?_cons_zero, List.getElem?_cons_succ]; rfl) (by kernel_rfl) (by kernel_rfl) (by kernel_rfl) (by exact fun _ _ _ h => h) (Or.inl ⟨by rfl, ?h21⟩) (by assumption) ?r21
            case h21 => (intro w hSw; (try dsimp only at hSw); go_simp; try with_reducible rfl)
            try simp only [Act.put, List.setIfInBounds_toArray, List.set_cons_zero, List.set_cons_succ]
            refine wpAnyH_ready (rs := [6]) (by kernel_rfl) (by simp) ?_
            refine (AllReadyH.cons (by simp only [List.getElem?_toArray, List.getElem?_cons_zero, List.getElem?_cons_succ]; rfl) (fun K hK => ?_) AllReadyH.nil)
            go_simp
            go_at_call 87
            refine (HO _ ((Below.refl w.heap.size w).drew)).mono ?_
            rintro e wq22 ⟨rfl, rfl⟩
            refine hK.out _ _ (SB _ (Below.refl w.heap.size w).drew) (fun hH23 => ?_)
            clear hK
            try simp only [Act.put, List.setIfInBounds_toArray, List.set_cons_zero, List.set_cons_succ]
            refine wpAnyH_ready (rs := [7]) (by kernel_rfl) (by simp) ?_
            refine (AllReadyH.cons (by simp only [List.getElem?_toArray, List.getElem?_cons_zero, List.getElem?_cons_succ]; rfl) (fun K hK => ?_) AllReadyH.nil)
            go_simp
            go_at_call 20
            refine (LK _ ((Below.refl w.heap.size w).drew)).mono ?_
            rintro e wq24 ⟨g24, c24, rfl, o24, z24, y24, k24, C24⟩
            have BB24 := ((Below.refl w.heap.size w).drew).trans (C24.mono (Below.size ((Below.refl w.heap.size w).drew)))
            refine hK.out _ _ (SB _ BB24) (fun hH25 => ?_)
            clear hK
            try simp only [Act.put, List.setIfInBounds_toArray, List.set_cons_zero, List.set_cons_succ]
            refine wpAnyH_take (i := 8) (v := ?v26) (by simp only [List.getElem?_toArray, List.getElem?_cons_zero, List.getElem?_cons_succ]; rfl) (by kernel_rfl) (by kernel_rfl) (by kernel_rfl) (by exact fun _ _ _ h => h) (Or.inl ⟨by rfl, ?h26⟩) (by assumption) ?r26
            case h26 => (intro w hSw; (try dsimp only at hSw); go_simp; try with_reducible rfl)
            try simp only [Act.put, List.setIfInBounds_toArray, List.set_cons_zero, List.set_cons_succ]
            refine wpAnyH_take (i := 9) (v := ?v27) (by simp only [List.getElem?_toArray, List.getElem?_cons_zero, List.getElem?_cons_succ]; rfl) (by kernel_rfl) (by kernel_rfl) (by kernel_rfl) (by exact fun _ _ _ h => h) (Or.inl ⟨by rfl, ?h27⟩) (by assumption) ?r27
            case h27 => (intro w hSw; (try dsimp only at hSw); go_simp; try with_reducible rfl)
            try simp only [Act.put, List.setIfInBounds_toArray, List.set_cons_zero, List.set_cons_succ]
            refine wpAnyH_take (i := 10) (v := ?v28) (by simp only [List.getElem?_toArray, List.getElem?_cons_zero, List.getElem?_cons_succ]; rfl) (by kernel_rfl) (by kernel_rfl) (by kernel_rfl) (by exact fun _ _ _ h => h) (Or.inl ⟨by rfl, ?h28⟩) (by assumption) ?r28
            case h28 => (intro w hSw; (try dsimp only at hSw); go_simp; try with_reducible rfl)
            try simp only [Act.put, List.setIfInBounds_toArray, List.set_cons_zero, List.set_cons_succ]
            refine wpAnyH_take (i := 11) (v := ?v29) (by simp only [List.getElem?_toArray, List.getElem?_cons_zero, List.getElem?_cons_succ]; rfl) (by kernel_rfl) (by kernel_rfl) (by kernel_rfl) (by exact fun _ _ _ h => h) (Or.inl ⟨by rfl, ?h29⟩) (by assumption) ?r29
            case h29 => (intro w hSw; (try dsimp only at hSw); go_simp; try with_reducible rfl)
            try simp only [Act.put, List.setIfInBounds_toArray, List.set_cons_zero, List.set_cons_succ]
            refine wpAnyH_take (i := 12) (v := ?v30) (by simp only [List.getElem?_toArray, List.getElem?_cons_zero, List.getElem?_cons_succ]; rfl) (by kernel_rfl) (by kernel_rfl) (by kernel_rfl) (by exact fun _ _ _ h => h) (Or.inl ⟨by rfl, ?h30⟩) (by assumption) ?r30
            case h30 => (intro w hSw; (try dsimp only at hSw); go_simp; try with_reducible rfl)
            try simp only [Act.put, List.setIfInBounds_toArray, List.set_cons_zero, List.set_cons_succ]
            refine wpAnyH_done (by kernel_rfl) ?_ _
            have S2 := hid (HS.out.below (BB24))
            have L2 := hid (show LStep M B w M B wq24 from LStep.of_below (BB24))
            have EN := ends_any S2.out 0
            rw [ends_zero] at EN
            have O2 := hid (owns_mono o24 (Below.size ((Below.refl w.heap.size w).drew)))
            have Y2 := hid y24
            go_wp2_with fail
            refine EN.mono ?_
            rintro e w7 ⟨rfl, Y7, Z7⟩
            have Y7H := hid Y7
            have O7 := hid (Z7.ext.owns (fun gg hg hf => by have h8 := o24.lt gg hg; have h9 : w.heap.size ≤ gg := (O2.out.lt gg hg).1; exact hf.elim (fun e => by have := HS.out.drum.ml _ e; omega) (fun e => by have := HS.out.led.bs _ e; omega)) O2.out)
            have Z7H := hid (L2.out.trans Z7)
            clear EN Y7 Z7
            go_wp2_with fail
            go_ret2
            exact ⟨some ⟨g24, 0, none⟩, 96, c24, by rw [HC.out]; rfl, by rw [HZZ.out]; exact O7.out, by rw [HZZ.out]; exact Y2.out, by rw [HL.out]; exact Y7H.out, Z7H.out⟩
        · have HC := hid (show L.lookC s k = 0 by unfold LS.lookC; rw [if_pos HIN.out, HLO.out, ht]; rfl)
          have HZ := hid (show L.lookZ s k = zs by unfold LS.lookZ; rw [HC.out, ht]; rfl)
          have HL := hid (show L.lookL s k = L by unfold LS.lookL; rw [if_neg]; rintro ⟨-, -, -, e, -⟩; rw [ht] at e; cases e)
          have CL := cloneB_any (some ta) 96 tc zs w tr t96 (fun h => by cases h) (by decide)
          have TB := hid tby
          clear h ok hH ht tr t96 tM tby
          go_enter Tryz.func76, Tryz.ntmps76
          go_wp2_with fail
          refine HA.mono ?_
          rintro e w1 ⟨rfl, rfl⟩
          clear HA HO
          go_wp2_with fail
          refine CL.mono ?_
          rintro e w2 ⟨v2, rfl, o2, B2⟩
          obtain ⟨a2, c2, rfl⟩ := owns_slice o2
          have O2 := hid o2
          have S2 := hid (HS.out.below B2)
          have L2 := hid (show LStep M B w M B w2 from LStep.of_below B2)
          clear CL o2 B2
          go_wp2_with fail
          go_ret2
          exact ⟨a2, 96, c2, by rw [HC.out]; rfl, by rw [HZ.out]; exact O2.out, by rw [HZ.out]; exact TB.out, by rw [HL.out]; exact S2.out, L2.out⟩
    · have hge : decide ((H : Int) ≤ k) = true := decide_eq_true (by omega)
      have HC := hid (show L.lookC s k = 1 by unfold LS.lookC; rw [if_neg (by rw [hH]; omega)])
      have HZ := hid (show L.lookZ s k = [] by unfold LS.lookZ; rw [HC.out]; rfl)
      have HL := hid (show L.lookL s k = L by unfold LS.lookL; rw [if_neg (by rw [hH]; omega)])
      clear h TA ok hH
      go_enter Tryz.func76, Tryz.ntmps76
      go_wp2_with fail
      refine HA.mono ?_
      rintro e w1 ⟨rfl, rfl⟩
      clear HA HO
      go_wp2_with fail
      go_ret2
      exact ⟨none, 0, 0, by rw [HC.out]; rfl, by rw [HZ.out]; exact World.ownsRow_nil _ _ _ _, nil_bytes HZ.out, by rw [HL.out]; exact HS.out, LStep.refl _ _ _⟩

end Go.Proofs.YtleoelhhndeheaaGreat
