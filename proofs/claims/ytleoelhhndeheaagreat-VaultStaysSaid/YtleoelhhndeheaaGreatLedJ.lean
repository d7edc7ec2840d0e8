import Derived.Test.YtleoelhhndeheaaGreatLedH
import Derived.Test.YtleoelhhndeheaaGreatLedC
/- package ledger: a ledger in memory; the small methods -/
open Go Go.RowKit
open Go.Maps (Keyed has)
namespace Go.Proofs.YtleoelhhndeheaaGreat

theorem nodup_lt : ∀ (n : Nat) (l : List Nat), l.Nodup → (∀ x ∈ l, x < n) → l.length ≤ n
  | 0, l, _, h => by
    cases l with
    | nil => exact Nat.le_refl _
    | cons x r => exact absurd (h x (List.mem_cons_self ..)) (by omega)
  | n + 1, l, hd, h => by
    have h1 := nodup_lt n (l.erase n) (hd.erase n) (fun x hx => by
      have h2 := h x (List.mem_of_mem_erase hx)
      have h3 : x ≠ n := fun e => by subst e; exact (List.Nodup.not_mem_erase hd) hx
      omega)
    by_cases hm : n ∈ l
    · rw [List.length_erase_of_mem hm] at h1; omega
    · rw [List.erase_of_not_mem hm] at h1; omega

theorem _root_.Go.World.ownsMap.intKeyed {w : World} {b n : Nat} {D : DataW Value} (h1 : w.ownsMap Tryz.prog 3 rawE b n D) : ∀ es : List (Lit × DataW Value), D = .map es → ∀ p ∈ es, ∃ x : Int, p.1 = ky x := by
  obtain ⟨es, c, hb, F, hs, hD⟩ := h1
  intro es' he p hp
  rw [hD] at he
  cases he
  have hp := (Go.WideShapes.sorted_perm _).mem_iff.1 hp
  obtain ⟨x, hx, rfl⟩ := List.mem_map.1 hp
  obtain ⟨y, hy⟩ := F.reads x hx
  have hk := Go.WideElems.rd_key hy
  rw [Go.WideElems.rg_of hy]
  have hu := Tryz.underlying3
  cases hkk : x.key with
  | int q a =>
    rw [hkk] at hk
    simp [keyOf, hu, mapKey] at hk
    obtain ⟨⟨rfl, _⟩, hk⟩ := hk
    exact ⟨a, hk.symm⟩
  | _ => rw [hkk] at hk; simp [keyOf, hu, mapKey] at hk

theorem IMap.small {w : World} {b n : Nat} {T : Int → Option Value} (h : IMap w b n T) {H : Nat} (hk : ∀ x, (T x).isSome → 0 ≤ x ∧ x < H) : IMap w b H T := by
  obtain ⟨D, h1, h2, h3⟩ := h.out
  refine ⟨D, ?_, h2, h3⟩
  have td := h1.tidy iK
  have hkeys := h1.intKeyed
  obtain ⟨es, c, hb, F, hs, hD⟩ := h1
  refine ⟨es, c, hb, F, ?_, hD⟩
  obtain ⟨es', he, hpw⟩ := td
  have hlen : es.size = es'.length := by
    rw [hD] at he
    cases he
    rw [length_sorted]; simp
  rw [hlen]
  have hall := hkeys es' he
  have hnn : ∀ p ∈ es', ∃ k : Nat, p.1 = ky k ∧ k < H := fun p hp => by
    obtain ⟨x, hx⟩ := hall p hp
    have hh : has D (ky x) = true := by
      rw [he]
      show es'.any (fun q => q.1.sameKey (ky x)) = true
      rw [List.any_eq_true]
      exact ⟨p, hp, by rw [hx]; simp [Lit.sameKey]⟩
    rw [h2] at hh
    have := hk x hh
    exact ⟨x.toNat, by rw [hx, show ((x.toNat : Nat) : Int) = x by omega], by omega⟩
  have h5 := nodup_lt H (es'.map fun p => match p.1 with | .int _ a => a.toNat | _ => 0) (by
    refine List.pairwise_map.2 (hpw.imp_of_mem fun {p q} hp hq hne e => hne ?_)
    obtain ⟨a, ha, -⟩ := hnn p hp
    obtain ⟨b, hb, -⟩ := hnn q hq
    rw [ha, hb] at e ⊢
    have e : a = b := by simpa [ky] using e
    rw [e]) (fun x hx => by
    obtain ⟨p, hp, rfl⟩ := List.mem_map.1 hx
    obtain ⟨a, ha, hl⟩ := hnn p hp
    rw [ha]
    simpa [ky] using hl)
  rw [List.length_map] at h5
  exact h5

/-- what was taken, in a map -/
structure TknAt (w : World) (M : Dom) (mb : Nat) (T : Tkn) : Prop where
  out : ∃ V, IMap w mb 4096 V ∧ ∀ x, (V x = none ∧ T x = none) ∨ ∃ v zs, V x = some v ∧ T x = some zs ∧ Trk w M v zs
  ks : ∀ x, (T x).isSome → 0 ≤ x ∧ x < 4096
theorem Trk.step {w w' : World} {M M' : Dom} {v : Value} {zs : List Int} (h : Trk w M v zs) {F : Nat → Prop} (k : Ext F w w') (hF : ∀ q, F q → M q ∨ M.X q) (hM : ∀ q, M' q ∨ M'.X q → (M q ∨ M.X q) ∨ w.heap.size ≤ q) : Trk w' M' v zs := by
  obtain ⟨a, c, h1, h2, h3, h4, h5⟩ := h
  have hlt : a.block < w.heap.size := h2.lt (by rw [B8_length]; omega)
  refine ⟨a, c, h1, h2.ext k (fun _ hf => h4 (hF _ hf)), h3, fun hm => ?_, h5⟩
  rcases hM _ hm with h | h
  · exact h4 h
  · omega
theorem TknAt.step {w w' : World} {M M' : Dom} {mb : Nat} {T : Tkn} (h : TknAt w M mb T) {F : Nat → Prop} (k : Ext F w w') (hF : ∀ q, F q → M q ∨ M.X q) (hb : ¬ F mb) (hM : ∀ q, M' q ∨ M'.X q → (M q ∨ M.X q) ∨ w.heap.size ≤ q) : TknAt w' M' mb T := by
  obtain ⟨V, h1, h2⟩ := h.out
  refine ⟨⟨V, h1.ext k hb, fun x => ?_⟩, h.ks⟩
  rcases h2 x with h | ⟨v, zs, e1, e2, ht⟩
  · exact .inl h
  · exact .inr ⟨v, zs, e1, e2, ht.step k hF hM⟩

abbrev ledCells (d mb : Nat) (L : LS) : Array Value := #[.pointer (some ⟨d, 0, none⟩), .int .i64 L.round, .int .i64 L.leaves, .int .i64 L.used, .int .i64 L.last, .map (some mb), .bool L.lost]
/-- a ledger on a drum: B its own blocks -/
structure LedP (w : World) (M : Dom) (B : Nat → Prop) (d l mb : Nat) (L : LS) : Prop where
  obj : w.heap[l]? = some (.cells (ledCells d mb L) 122 (0, 0))
  tkn : TknAt w M mb L.taken
  bl : B l
  bm : B mb
  bx : ∀ q, B q → M.X q ∧ ¬ M q
  bs : ∀ q, B q → q < w.heap.size
def LedAt (w : World) (M : Dom) (B : Nat → Prop) (d l : Nat) (L : LS) : Prop := ∃ mb, LedP w M B d l mb L

structure LStep (M : Dom) (B : Nat → Prop) (w : World) (M' : Dom) (B' : Nat → Prop) (w' : World) : Prop where
  ext : Ext (fun q => M q ∨ B q) w w'
  new : ∀ q, M' q → M q ∨ w.heap.size ≤ q
  newB : ∀ q, B' q → B q ∨ w.heap.size ≤ q
  newX : ∀ q, M'.X q → M.X q ∨ w.heap.size ≤ q
  oldX : ∀ q, M.X q → M'.X q
theorem LStep.refl (M : Dom) (B : Nat → Prop) (w : World) : LStep M B w M B w := ⟨Ext.refl _ _, fun _ h => .inl h, fun _ h => .inl h, fun _ h => .inl h, fun _ h => h⟩
theorem LStep.trans {M M' M'' : Dom} {B B' B'' : Nat → Prop} {w w' w'' : World} (h : LStep M B w M' B' w') (k : LStep M' B' w' M'' B'' w'') : LStep M B w M'' B'' w'' := by
  have hs := h.ext.size
  refine ⟨h.ext.trans k.ext (fun i hi hg => ?_), fun q hq => ?_, fun q hq => ?_, fun q hq => ?_, fun q hq => k.oldX q (h.oldX q hq)⟩
  · rcases hg with hg | hg
    · exact (h.new i hg).elim .inl (fun e => by omega)
    · exact (h.newB i hg).elim .inr (fun e => by omega)
  · exact (k.new q hq).elim (h.new q) (fun e => .inr (by omega))
  · exact (k.newB q hq).elim (h.newB q) (fun e => .inr (by omega))
  · exact (k.newX q hq).elim (h.newX q) (fun e => .inr (by omega))
theorem LStep.of_step {M M' : Dom} {B : Nat → Prop} {w w' : World} (k : Step M w M' w') : LStep M B w M' B w' :=
  ⟨k.ext.mono (fun _ _ h => .inl h), k.new, fun _ h => .inl h, fun q h => .inl (k.same ▸ h), fun q h => by rw [k.same]; exact h⟩
theorem LStep.of_below {M : Dom} {B : Nat → Prop} {w w' : World} (k : Below w.heap.size w w') : LStep M B w M B w' :=
  ⟨Ext.of_below k _, fun _ h => .inl h, fun _ h => .inl h, fun _ h => .inl h, fun _ h => h⟩

/-- the drum goes a step -/
theorem LedP.step {w w' : World} {M M' : Dom} {B : Nat → Prop} {d l mb : Nat} {L : LS} (h : LedP w M B d l mb L) (k : Step M w M' w') : LedP w' M' B d l mb L := by
  have hM : ∀ q, M' q ∨ M'.X q → (M q ∨ M.X q) ∨ w.heap.size ≤ q := fun q hq => hq.elim (fun h => (k.new q h).imp .inl id) (fun h => .inl (.inr (k.same ▸ h)))
  refine ⟨k.ext.blk (h.bx l h.bl).2 h.obj, h.tkn.step k.ext (fun q hq => .inl hq) (h.bx mb h.bm).2 hM, h.bl, h.bm, fun q hq => ⟨by rw [k.same]; exact (h.bx q hq).1, fun hm => ?_⟩, fun q hq => Nat.lt_of_lt_of_le (h.bs q hq) k.ext.size⟩
  rcases k.new q hm with h1 | h1
  · exact (h.bx q hq).2 h1
  · have := h.bs q hq; omega
theorem LedP.below {w w' : World} {M : Dom} {B : Nat → Prop} {d l mb : Nat} {L : LS} (h : LedP w M B d l mb L) (k : Below w.heap.size w w') : LedP w' M B d l mb L := by
  have kx := Ext.of_below k (fun _ => False)
  exact ⟨kx.blk id h.obj, h.tkn.step kx (fun _ hf => hf.elim) id (fun q hq => .inl hq), h.bl, h.bm, h.bx, fun q hq => Nat.lt_of_lt_of_le (h.bs q hq) k.size⟩

/-- numbers within their bounds -/
structure LS.Ok (L : LS) (s : DS) : Prop where
  n1 : s.n ≤ 4096
  r : 0 ≤ L.round ∧ L.round < 281474976710000
  l : 5 ≤ L.leaves ∧ L.leaves + 4 ≤ s.n
  u : 0 ≤ L.used ∧ L.used ≤ L.leaves
  k : 0 ≤ L.last ∧ L.last < 1000000000
  t : ∀ x, (L.taken x).isSome → 0 ≤ x ∧ x < s.n - (2 + L.leaves)
  z : ∀ x zs, L.taken x = some zs → zs.length = 96 ∧ IsBytes zs

structure LS.Lv (L : LS) (s : DS) : Prop where
  n1 : s.n ≤ 4096
  l : 5 ≤ L.leaves ∧ L.leaves + 4 ≤ s.n
theorem LS.Ok.lv {L : LS} {s : DS} (h : L.Ok s) : L.Lv s := ⟨h.n1, h.l⟩

theorem LedP.cells {w : World} {M : Dom} {B : Nat → Prop} {d l mb : Nat} {L : LS} (h : LedP w M B d l mb L) :
    w.cell? ⟨l, 0, none⟩ = some (.pointer (some ⟨d, 0, none⟩)) ∧ w.cell? ⟨l, 1, none⟩ = some (.int .i64 L.round) ∧ w.cell? ⟨l, 2, none⟩ = some (.int .i64 L.leaves) ∧ w.cell? ⟨l, 3, none⟩ = some (.int .i64 L.used) ∧
      w.cell? ⟨l, 4, none⟩ = some (.int .i64 L.last) ∧ w.cell? ⟨l, 5, none⟩ = some (.map (some mb)) ∧ w.cell? ⟨l, 6, none⟩ = some (.bool L.lost) :=
  ⟨blk_cell h.obj rfl, blk_cell h.obj rfl, blk_cell h.obj rfl, blk_cell h.obj rfl, blk_cell h.obj rfl, blk_cell h.obj rfl, blk_cell h.obj rfl⟩
/-- a field of the ledger is written -/
theorem LedP.put {w : World} {M : Dom} {B : Nat → Prop} {d l mb : Nat} {L L' : LS} (h : LedP w M B d l mb L) {o : Nat} {v : Value} (hc : (ledCells d mb L).setIfInBounds o v = ledCells d mb L') (ht : L'.taken = L.taken) : LedP (w.setCell ⟨l, o, none⟩ v) M B d l mb L' := by
  have kx : Ext (· = l) w (w.setCell ⟨l, o, none⟩ v) := ⟨rfl, rfl, rfl, by simp, fun q hq hf => Below.heap_setCell _ _ _ _ hf⟩
  have hne : ¬ (mb = l) := fun e => by
    obtain ⟨V, h1, -⟩ := h.tkn.out
    obtain ⟨es, c, h2⟩ := h1.blk
    rw [e, h.obj] at h2
    cases h2
  refine ⟨by rw [← hc]; exact blk_setCell h.obj v, ?_, h.bl, h.bm, h.bx, fun q hq => by have := h.bs q hq; simpa using this⟩
  rw [ht]
  exact h.tkn.step kx (fun q hq => by subst hq; exact .inr (h.bx _ h.bl).1) hne (fun q hq => .inl hq)
theorem LStep.put {w : World} {M : Dom} {B : Nat → Prop} {l : Nat} (h : B l) (o : Nat) (v : Value) : LStep M B w M B (w.setCell ⟨l, o, none⟩ v) :=
  ⟨⟨rfl, rfl, rfl, by simp, fun q hq hf => Below.heap_setCell _ _ _ _ (fun e => hf (.inr (e ▸ h)))⟩, fun _ h => .inl h, fun _ h => .inl h, fun _ h => .inl h, fun _ h => h⟩

/-- a drum and a ledger on it -/
structure Sys (w : World) (M : Dom) (B : Nat → Prop) (d l mb : Nat) (s : DS) (L : LS) : Prop where
  drum : DrumAt w M d s
  led : LedP w M B d l mb L
theorem Sys.below {w w' : World} {M : Dom} {B : Nat → Prop} {d l mb : Nat} {s : DS} {L : LS} (h : Sys w M B d l mb s L) (k : Below w.heap.size w w') : Sys w' M B d l mb s L := ⟨h.drum.below k, h.led.below k⟩
theorem Sys.step {w w' : World} {M M' : Dom} {B : Nat → Prop} {d l mb : Nat} {s s' : DS} {L : LS} (h : Sys w M B d l mb s L) (hd : DrumAt w' M' d s') (k : Step M w M' w') : Sys w' M' B d l mb s' L := ⟨hd, h.led.step k⟩
theorem Sys.put {w : World} {M : Dom} {B : Nat → Prop} {d l mb : Nat} {s : DS} {L L' : LS} (h : Sys w M B d l mb s L) {o : Nat} {v : Value} (hc : (ledCells d mb L).setIfInBounds o v = ledCells d mb L') (ht : L'.taken = L.taken) : Sys (w.setCell ⟨l, o, none⟩ v) M B d l mb s L' := by
  have kx : Ext (· = l) w (w.setCell ⟨l, o, none⟩ v) := ⟨rfl, rfl, rfl, by simp, fun q hq hf => Below.heap_setCell _ _ _ _ hf⟩
  exact ⟨h.drum.other kx (fun q hq => by subst hq; exact (h.led.bx _ h.led.bl).1) (fun q hq => by subst hq; exact (h.led.bx _ h.led.bl).2), h.led.put hc ht⟩

theorem homeAt_any {w : World} {M : Dom} {B : Nat → Prop} {d l mb : Nat} {s : DS} {L : LS} (h : Sys w M B d l mb s L) (ok : L.Lv s) (k : Int) (hk : -1000000 ≤ k ∧ k ≤ 1000000) :
    Calls Tryz.prog 87 #[.pointer (some ⟨l, 0, none⟩), .int .i64 k] w fun e w' => e = .returned (.int .i64 (2 + L.leaves + k)) ∧ w = w' := by
  obtain ⟨-, -, c2, -⟩ := h.led.cells
  have h1 := ok.l
  have h2 := ok.n1
  clear h
  go_enter Tryz.func87, Tryz.ntmps87
  go_wp2_with fail
  go_ret
  exact ⟨rfl, rfl⟩

theorem home_any {w : World} {M : Dom} {B : Nat → Prop} {d l mb : Nat} {s : DS} {L : LS} (h : Sys w M B d l mb s L) (ok : L.Lv s) :
    Calls Tryz.prog 57 #[.pointer (some ⟨l, 0, none⟩)] w fun e w' => e = .returned (.int .i64 ((L.H s : Nat) : Int)) ∧ w = w' := by
  obtain ⟨c0, -⟩ := h.led.cells
  have TA := tracks_any h.drum
  have HA := homeAt_any h ok 0 (by omega)
  have h1 := ok.l
  have h2 := ok.n1
  have HE := hid (show (s.n : Int) - (2 + L.leaves + 0) = ((L.H s : Nat) : Int) by unfold LS.H; omega)
  clear h
  go_enter Tryz.func57, Tryz.ntmps57
  go_wp2_with fail
  refine TA.mono ?_
  rintro e w1 ⟨rfl, rfl⟩
  clear TA
  go_wp2_with fail
  refine HA.mono ?_
  rintro e w1 ⟨rfl, rfl⟩
  clear HA
  go_wp2_with fail
  go_ret
  exact ⟨ret_int (by have := HE.out; omega), rfl⟩

theorem blank_any {w : World} {M : Dom} {B : Nat → Prop} {d l mb : Nat} {s : DS} {L : LS} (h : Sys w M B d l mb s L) (ok : L.Ok s) :
    Calls Tryz.prog 70 #[.pointer (some ⟨l, 0, none⟩)] w fun e w' => e = .returned (.int .i64 (L.leaves - L.used)) ∧ Below w.heap.size w w' := by
  obtain ⟨-, -, c2, c3, -⟩ := h.led.cells
  have h1 := ok.l
  have h2 := ok.n1
  have h3 := ok.u
  clear h
  go_enter Tryz.func70, Tryz.ntmps70
  go_wp2_with fail
  go_region_held3 (fun w' => w'.cell? ⟨l, 2, none⟩ = some (.int .i64 L.leaves) ∧ w'.cell? ⟨l, 3, none⟩ = some (.int .i64 L.used)) (first | exact ⟨c2, c3⟩ | assumption) (fail)
  go_wp2_with fail
  go_ret
  exact ⟨by first | rfl | exact ret_int (by have e : IntKind.i64.wrap (L.leaves - L.used) = L.leaves - L.used := IntWalk.i64_in _ (by omega); exact e), (Below.refl _ _).drew⟩

theorem lost_any {w : World} {M : Dom} {B : Nat → Prop} {d l mb : Nat} {s : DS} {L : LS} (h : Sys w M B d l mb s L) :
    Calls Tryz.prog 59 #[.pointer (some ⟨l, 0, none⟩)] w fun e w' => e = .returned (.bool L.lost) ∧ w = w' := by
  obtain ⟨-, -, -, -, -, -, c6⟩ := h.led.cells
  clear h
  go_enter Tryz.func59, Tryz.ntmps59
  go_wp2_with fail
  go_ret
  exact ⟨rfl, rfl⟩

theorem ends_any {w : World} {M : Dom} {B : Nat → Prop} {d l mb : Nat} {s : DS} {L : LS} (h : Sys w M B d l mb s L) (e0 : Int) :
    Calls Tryz.prog 71 #[.pointer (some ⟨l, 0, none⟩), .int .i64 e0] w fun e w' => e = .returned (.int .i64 e0) ∧ Sys w' M B d l mb s (L.ends e0) ∧ LStep M B w M B w' := by
  obtain ⟨-, -, -, -, -, -, c6⟩ := h.led.cells
  have fr := fun o => blk_free (o := o) h.led.obj
  have HP := hid (fun b : Bool => (h.put (o := 6) (v := .bool b) (L' := { L with lost := b }) rfl rfl))
  have HS := hid (fun b : Bool => LStep.put (w := w) (M := M) h.led.bl 6 (.bool b))
  have HE := hid (show L.ends e0 = { L with lost := L.lost || decide (e0 = 4) } from rfl)
  clear h
  obtain ⟨lo, hlo⟩ : ∃ lo, L.lost = lo := ⟨_, rfl⟩
  rw [hlo] at c6 HE
  clear hlo
  cases lo with
  | true =>
    go_enter Tryz.func71, Tryz.ntmps71
    go_wp2_with fail
    go_ret
    exact ⟨rfl, by rw [HE.out]; exact HP.out true, HS.out true⟩
  | false =>
    by_cases he : e0 = 4
    · subst he
      go_enter Tryz.func71, Tryz.ntmps71
      go_wp2_with fail
      go_ret
      exact ⟨rfl, by rw [HE.out]; exact HP.out true, HS.out true⟩
    · have he1 : (e0 == 4) = false := by simpa using he
      have HD := hid (show (false || decide (e0 = 4)) = false by simpa using he)
      go_enter Tryz.func71, Tryz.ntmps71
      go_wp2_with fail
      go_ret
      exact ⟨rfl, by rw [HE.out, HD.out]; exact HP.out false, HS.out false⟩

end Go.Proofs.YtleoelhhndeheaaGreat

/- package ledger: readAll -/
open Go Go.RowKit
namespace Go.Proofs.YtleoelhhndeheaaGreat

theorem EntsOwn.keep {w w' : World} {lo : Nat} {v : Value} {l : List Ent} (h : EntsOwn w lo v l) {F : Nat → Prop} (k : Ext F w w') (hF : ∀ q, F q → q < lo) : EntsOwn w' lo v l := by
  obtain ⟨us, h0, h1, h2⟩ := h.row
  refine ⟨us, h0, k.owns2 (fun g hg hf => by have := (h1.lt g hg).1; have := hF g hf; omega) h1, fun i x hi => ?_⟩
  obtain ⟨u, h3, h4, r⟩ := h2 i x hi
  exact ⟨u, h3, k.owns2 (fun g hg hf => by have := (h4.lt g hg).1; have := hF g hf; omega) h4, r⟩
theorem EntsOwn.at {w : World} {lo : Nat} {v : Value} {l : List Ent} (h : EntsOwn w lo v l) {a : Option Addr} {c : Nat} (hv : v = .slice a l.length c) {i : Nat} {x : Ent} (hi : l[i]? = some x) :
    a = some ⟨sB a, sO a, none⟩ ∧ w.cell? ⟨sB a, sO a + i * 2, none⟩ = some (.int .i64 x.1) ∧ ∃ b d, w.cell? ⟨sB a, sO a + i * 2 + 1, none⟩ = some (.slice (some b) 96 d) ∧ Row w (some b) (B8 x.2) ∧ x.2.length = 96 ∧ IsBytes x.2 ∧ 96 ≤ d ∧ lo ≤ b.block ∧ (0 ≤ x.1 ∧ x.1 < 65536) := by
  subst hv
  obtain ⟨us, h0, h1, h2⟩ := h.row
  obtain ⟨u, k1, k2, k3, k4⟩ := h2 i x hi
  have hi2 : i < l.length := (List.getElem?_eq_some_iff.1 hi).1
  obtain ⟨e1, e2⟩ := entCells_get l us i x u hi k1
  obtain ⟨b, d, rfl, m1, m2, m3, m4⟩ := own96 k2
  rcases h1.2 with ⟨e, hn⟩ | ⟨g, cap, cur, e, hg, hh, hcap, hm, hsz, htake⟩
  · omega
  · cases e
    rw [← htake, List.getElem?_take, if_pos (by omega), Array.getElem?_toList] at e1 e2
    refine ⟨rfl, ?_, b, d, ?_, m1, m2, k3, m3, m4, k4⟩
    · show w.cell? ⟨g, 0 + i * 2, none⟩ = _
      rw [Nat.zero_add]; exact blk_cell hh e1
    · show w.cell? ⟨g, 0 + i * 2 + 1, none⟩ = _
      rw [Nat.zero_add]; exact blk_cell hh e2
theorem LvRow.empty (w : World) (N : Nat → Prop) (a : Option Addr) : LvRow w N a 0 [] := ⟨rfl, (fun h => by omega), (fun h => by omega), fun i zs h => by simp at h⟩
theorem mayFrom_mem {homes : Int} : ∀ {l : List Ent} {s : List Int}, mayFrom homes l s = true → ∀ x ∈ l, 0 ≤ x.1 ∧ x.1 < homes ∧ x.2.length = 96
  | [], _, _, x, hx => by cases hx
  | y :: r, s, h, x, hx => by
    rw [mayFrom_cons, Bool.and_eq_true, decide_eq_true_eq] at h
    rcases List.mem_cons.1 hx with rfl | hx
    · exact ⟨h.1.1, h.1.2.1, h.1.2.2.1⟩
    · exact mayFrom_mem h.2 x hx
theorem mayE_mem {homes : Int} {l : List Ent} (h : mayE l homes = true) : ∀ x ∈ l, 0 ≤ x.1 ∧ x.1 < homes ∧ x.2.length = 96 := by
  unfold mayE at h
  rw [Bool.and_eq_true] at h
  exact mayFrom_mem h.1
theorem wholeE_mem {ls : List (List Int)} {r no homes : Int} : ∀ x ∈ wholeE ls r no homes, 0 ≤ x.1 ∧ x.1 < homes ∧ x.2.length = 96 := by
  intro x hx
  unfold wholeE at hx
  split at hx
  · rename_i h
    unfold isWhole at h
    rw [Bool.and_eq_true, Bool.and_eq_true] at h
    exact mayE_mem h.2.1 x hx
  · cases hx
theorem wholeE_length {ls : List (List Int)} {r no homes : Int} (h : ∀ zs ∈ ls, IsBytes zs) : (wholeE ls r no homes).length < 65536 := by
  unfold wholeE
  split
  · exact entriesL_length (fun zs hz => h zs (List.mem_of_mem_take hz))
  · show 0 < 65536; decide
theorem wholeN_le {ls : List (List Int)} {r no homes : Int} : wholeN ls r no homes ≤ ls.length := by
  unfold wholeN
  split
  · rename_i h
    unfold isWhole at h
    rw [Bool.and_eq_true, decide_eq_true_eq] at h
    exact h.1.2.2
  · exact Nat.zero_le _
theorem putL_succ {t : Tkn} {l : List Ent} {k : Nat} {x : Ent} (h : l[k]? = some x) : putL t (l.take (k + 1)) = putE (putL t (l.take k)) x := by
  unfold putL
  rw [take_succ_ent h, List.foldl_append]
  rfl
/-- one more is taken -/
theorem TknAt.store {w : World} {M : Dom} {mb : Nat} {T : Tkn} (h : TknAt w M mb T) {x : Ent} {v : Value} (ht : Trk w M v x.2) (hx : 0 ≤ x.1 ∧ x.1 < 4096) (hX : M.X mb) :
    ∃ w', (Instr.mapUpdate 65 (.map (some mb)) (.int .i64 x.1) v).run Tryz.prog w = .ok () w' ∧ TknAt w' M mb (putE T x) ∧ Ext (· = mb) w w' := by
  obtain ⟨V, h1, h2⟩ := h.out
  obtain ⟨w', hr, h3, h4⟩ := h1.store Tryz.underlying65 (by simp only [maxLen]; omega) (x := x.1) (by omega) v
  have kx : Ext (· = mb) w w' := (Ext.of_grown h4).mono (fun _ _ e => by cases e; rfl)
  have hks : ∀ y, (putE T x y).isSome → 0 ≤ y ∧ y < 4096 := fun y hy => by
    unfold putE at hy
    by_cases e : y = x.1
    · subst e; exact hx
    · rw [if_neg e] at hy; exact h.ks y hy
  have hstep : ∀ v zs, Trk w M v zs → Trk w' M v zs := fun v zs hv => hv.step kx (fun q hq => by subst hq; exact .inr hX) (fun q hq => .inl hq)
  have hall : ∀ y, ((if y = x.1 then some v else V y) = none ∧ putE T x y = none) ∨ ∃ u zs, (if y = x.1 then some v else V y) = some u ∧ putE T x y = some zs ∧ Trk w' M u zs := fun y => by
    unfold putE
    by_cases e : y = x.1
    · rw [if_pos e, if_pos e]; exact .inr ⟨v, x.2, rfl, rfl, hstep _ _ ht⟩
    · rw [if_neg e, if_neg e]
      rcases h2 y with h5 | ⟨u, zs, e1, e2, e3⟩
      · exact .inl h5
      · exact .inr ⟨u, zs, e1, e2, hstep _ _ e3⟩
  refine ⟨w', hr, ⟨⟨_, h3.small (H := 4096) (fun y hy => ?_), hall⟩, hks⟩, kx⟩
  refine hks y ?_
  rcases hall y with ⟨h5, -⟩ | ⟨u, zs, -, e2, -⟩
  · rw [h5] at hy; cases hy
  · rw [e2]; rfl
theorem Sys.tknPut {w w' : World} {M : Dom} {B : Nat → Prop} {d l mb : Nat} {s : DS} {L : LS} (h : Sys w M B d l mb s L) {T : Tkn} (kx : Ext (· = mb) w w') (ht : TknAt w' M mb T) : Sys w' M B d l mb s { L with taken := T } ∧ LStep M B w M B w' := by
  have hne : ¬ (l = mb) := fun e => by
    obtain ⟨V, h1, -⟩ := h.led.tkn.out
    obtain ⟨es, c, h2⟩ := h1.blk
    rw [← e, h.led.obj] at h2
    cases h2
  refine ⟨⟨h.drum.other kx (fun q hq => by subst hq; exact (h.led.bx _ h.led.bm).1) (fun q hq => by subst hq; exact (h.led.bx _ h.led.bm).2), kx.blk hne h.led.obj, ht, h.led.bl, h.led.bm, h.led.bx, fun q hq => Nat.lt_of_lt_of_le (h.led.bs q hq) kx.size⟩, ?_⟩
  exact ⟨kx.mono (fun q _ e => .inr (by subst e; exact h.led.bm)), fun _ h => .inl h, fun _ h => .inl h, fun _ h => .inl h, fun _ h => h⟩
theorem DrumAt.xl {w : World} {M : Dom} {d : Nat} {s : DS} (h : DrumAt w M d s) : ∀ q, M.X q → q < w.heap.size := by
  obtain ⟨p, -, h⟩ := h
  exact h.xl
theorem leavesOf_succ (s : DS) (k : Nat) : (List.range (k + 1)).map (fun j => s.now (2 + j)) = (List.range k).map (fun j => s.now (2 + j)) ++ [s.now (2 + k)] := by rw [List.range_succ, List.map_append]; rfl

set_option maxRecDepth 100000 in
set_option maxHeartbeats 8000000 in
theorem readAll_any {w : World} {M : Dom} {B : Nat → Prop} {d l mb : Nat} {s : DS} {L : LS} (h : Sys w M B d l mb s L) (ok : L.Ok s) (hb : s.broken = false) :
    Calls Tryz.prog 74 #[.pointer (some ⟨l, 0, none⟩)] w fun e w' => e = .returned (.int .i64 0) ∧ Sys w' M B d l mb s { L with taken := readL L.round (L.H s) (L.leaves.toNat + 1) (s.leavesOf L.leaves) 1 L.taken } ∧ LStep M B w M B w' := by
  obtain ⟨ip, hip, hpz0, hpz1, hpz2⟩ := info_parts iP
  obtain ⟨nl, hnl, hnl2⟩ : ∃ nl : Nat, L.leaves = (nl : Int) ∧ nl + 4 ≤ s.n := ⟨L.leaves.toNat, by have := ok.l; omega, by have := ok.l; omega⟩
  have hnlN : L.leaves.toNat = nl := by omega
  have okn := ok.n1
  have okr := ok.r
  have HS := hid h
  have OK := hid ok
  have HB := hid hb
  obtain ⟨c0, c1, c2, -, -, c5, -⟩ := h.led.cells
  have hlw : l < w.heap.size := lt_of_cell c0
  have HLV := hid (show s.leavesOf L.leaves = (List.range nl).map (fun j => s.now (2 + j)) by unfold DS.leavesOf; rw [hnlN])
  have HNL := hid hnlN
  rw [hnl] at c2
  have HNLE := hid hnl
  clear h hb hnlN ok hnl
  go_enter Tryz.func74, Tryz.ntmps74
  go_wp2_with fail
  go_loopw [3, 17] (fun v i wr => ∃ (k : Nat) (o : Value), o = v ∧ i = .int .i64 k ∧ k ≤ nl ∧ Hid (LvsAt wr w.heap.size o ((List.range k).map (fun j => s.now (2 + j)))) ∧ Hid (Below w.heap.size w wr)) (fun _ i _ => nl - (intOf i).toNat)
  case atStart => exact ⟨0, _, rfl, rfl, Nat.zero_le _, hid (LvsAt.nil _ _), hid (Below.refl _ _)⟩
  case round =>
    obtain ⟨k, vo, rfl, rfl, hk, LO, BR⟩ := hrel
    have szr := BR.out.size
    have c0' := Below.cellAt BR.out hlw c0
    by_cases hlt : k < nl
    · have DK := (HS.out.below BR.out).drum
      have LK := look_up DK HB.out (2 + k) (by omega)
      rw [show ((2 + k : Nat) : Int) = 2 + (k : Int) by omega] at LK
      have LSU := hid (leavesOf_succ s k)
      clear DK
      go_wp2_with fail
      refine LK.mono ?_
      rintro e w1 ⟨g, c, rfl, ho, hz96, hzb, hc96, B1⟩
      have LO1 := LO.out.below B1 (Nat.le_refl _)
      obtain ⟨hs, q1, q2⟩ := LO1.row
      rw [List.length_map, List.length_range] at q1
      have BR1 := hid (BR.out.trans (B1.mono szr))
      have HO := hid (owns_mono ho szr)
      have HZB := hid hzb
      have sz1 := BR1.out.size
      clear LK ho hz96 hzb LO LO1
      go_wp2_with (at_builtin; refine wpList_append_own _ rfl _ _ 46 rfl w.heap.size 27 ip (.slice none 0 0) 1 24 Tryz.underlying46 hip hpz0 hpz1 hpz2 rfl (by decide) vo k hs rfl (q1.alloc _) ⟨w1.heap.size, 0, none⟩ 1 1 [.slice (some ⟨g, 0, none⟩) 96 c] rfl rfl (cell_one_new _ _ _) ?c2 ?c3 ?c4 ?c5 ?_)
      case c2 => intro x hx; simp at hx; subst hx; rfl
      case c3 => simp only [maxLen]; omega
      case c4 => omega
      case c5 => simp; omega
      intro v2 w2 o2 g2 _
      have BX : Below w1.heap.size w1 (w1.alloc (.cells #[.slice (some ⟨g, 0, none⟩) 96 c] 27)) := (Below.refl _ _).alloc (Nat.le_refl _) _
      have LP := hid (show LvsAt w2 w.heap.size v2 ((List.range (k + 1)).map (fun j => s.now (2 + j))) by
        rw [LSU.out]
        exact LvsAt.push (by rw [List.length_map, List.length_range]; exact q1.alloc _) (fun i zs hi => by
          obtain ⟨u, k1, k2, k3⟩ := q2 i zs hi
          exact ⟨u, k1, k2.alloc _, k3⟩) (HO.out.alloc _) HZB.out (by rw [List.length_map, List.length_range]; exact o2) g2)
      have BR2 := hid ((BR1.out.alloc sz1 _).grown g2 (by simp; omega) (own_base q1))
      clear q1 q2 o2 g2
      go_wp2_with fail
      go_roundw
      case measure => simp [intOf]; omega
      case rel => exact ⟨k + 1, v2, rfl, by go_num, by omega, LP, BR2⟩
    · obtain rfl : nl = k := by omega
      obtain ⟨wo, rfl⟩ : ∃ wo : World, wo = wr := ⟨_, rfl⟩
      have SO := hid (HS.out.below BR.out)
      have hN : ∀ q, (M q ∨ M.X q) → q < wo.heap.size → q < w.heap.size := fun q hq _ => hq.elim (HS.out.drum.ml q) (HS.out.drum.xl q)
      obtain ⟨la, lc, rfl, LR, -, hlc, hlm, hla⟩ := LO.out.out (N := fun q => M q ∨ M.X q) hN
      rw [List.length_map, List.length_range] at LR hlc hla
      rw [show ((List.range nl).map (fun j => s.now (2 + j))).length = nl by simp]
      obtain ⟨ls0, hls0⟩ : ∃ ls0, (List.range nl).map (fun j => s.now (2 + j)) = ls0 := ⟨_, rfl⟩
      rw [hls0] at LR HLV
      obtain ⟨H, hH, hH2⟩ : ∃ H : Nat, L.H s = H ∧ H + (2 + nl) = s.n := ⟨_, rfl, by unfold LS.H; rw [HNLE.out]; omega⟩
      have HHH := hid hH
      obtain ⟨RES, hRES⟩ : ∃ RES, readL L.round (L.H s) (L.leaves.toNat + 1) (s.leavesOf L.leaves) 1 L.taken = RES := ⟨_, rfl⟩
      have HRES := hid (show readL L.round H (nl + 1) ls0 1 L.taken = RES by rw [← hRES, HLV.out, HNL.out, hH])
      have HR0 := hid hRES
      have S0 := hid (show LStep M B w M B wo from LStep.of_below BR.out)
      have LRH := hid LR
      clear hRES hH hls0 LR LO HS hN BR
      go_wp2_with fail
      go_loopg [3, 7] (nl + 1) (fun q v i wx => ∃ (f no n' a' c' : Nat) (g' : Option Addr) (ls : List (List Int)) (T : Tkn), Hid (f = q) ∧ v = .slice g' n' c' ∧ i = .int .i64 no ∧ n' ≤ c' ∧ n' < f ∧ f ≤ nl + 1 ∧ no + f ≤ nl + 2 ∧ c' ≤ 9223372036854775807 ∧ (0 < n' → g' = some ⟨sB g', a', none⟩) ∧ Hid (LvRow wx (fun q => M q ∨ M.X q) g' n' ls) ∧ Hid (Sys wx M B d l mb s { L with taken := T }) ∧ Hid (LStep M B wo M B wx) ∧ Hid (readL L.round H f ls no T = RES))
      case atStart => exact ⟨nl + 1, 1, nl, 0, lc, la, ls0, L.taken, hid rfl, rfl, rfl, hlc, by omega, by omega, by omega, by unfold maxLen at hlm; omega, hla, LRH, SO, hid (LStep.refl _ _ _), HRES⟩
      case round =>
        obtain ⟨f, no, n', a', c', g', ls, T, hq, rfl, rfl, h1, h2, h3, h4, h5, h6, LR, SX, ST, HRL⟩ := hrel
        obtain ⟨f', rfl⟩ : ∃ f', f = f' + 1 := ⟨f - 1, by omega⟩
        obtain ⟨wu, rfl⟩ : ∃ wu : World, wu = wr := ⟨_, rfl⟩
        obtain ⟨-, d1, -, -, -, -, -⟩ := SX.out.led.cells
        simp only at d1
        have lw : l < wu.heap.size := lt_of_cell d1
        have WA := fun (W : World) (Bw : Below wu.heap.size wu W) => whole_any g' n' c' ls (fun q => M q ∨ M.X q) L.round no H W (LR.out.below Bw (Nat.le_refl _)) h1 (by omega) ⟨okr.1, by have := okr.2; omega⟩ ⟨by omega, by omega⟩ ⟨by omega, by omega⟩
        have HA := fun (W : World) (Bw : Below wu.heap.size wu W) => home_any (SX.out.below Bw) ⟨okn, by show 5 ≤ L.leaves ∧ L.leaves + 4 ≤ s.n; exact OK.out.l⟩
        have hHT : ({ L with taken := T } : LS).H s = H := HHH.out
        rw [hHT] at HA
        obtain ⟨cnt, hcnt⟩ : ∃ cnt, wholeN ls L.round no H = cnt := ⟨_, rfl⟩
        obtain ⟨el, hel⟩ : ∃ el, wholeE ls L.round no H = el := ⟨_, rfl⟩
        have hcl : cnt ≤ n' := by rw [← hcnt, ← LR.out.len]; exact wholeN_le
        rw [hcnt, hel] at WA
        have hstep : readL L.round H (f' + 1) ls no T = if cnt = 0 then T else readL L.round H f' (ls.drop cnt) (no + 1) (putL T el) := by
          show (if wholeN ls L.round no H = 0 then _ else _) = _
          rw [hcnt, hel]
        have HSTEP := hid hstep
        have helb : el.length < 65536 := by rw [← hel]; exact wholeE_length LR.out.bytes.1
        have HELB := hid helb
        have HEL := hid (show ∀ x ∈ el, 0 ≤ x.1 ∧ x.1 < (H : Int) ∧ x.2.length = 96 by rw [← hel]; exact wholeE_mem)
        have SB : ∀ W, Below wu.heap.size wu W → W.cell? ⟨l, 1, none⟩ = some (.int .i64 L.round) ∧ True := fun W h => ⟨Below.cellAt h lw d1, trivial⟩
        clear hcnt hel hstep helb
        go_wp2_with fail
        refine wp_region_held_drew (S := fun w' => w'.cell? ⟨l, 1, none⟩ = some (.int .i64 L.round) ∧ True) (by kernel_rfl) (SB _ ((Below.refl wu.heap.size wu).drew)) (fun hHeld => ?_)
        refine wpAnyH_take (i := 0) (v := ?v1) (by simp only [List.getElem?_toArray, List.getElem?_cons_zero]; rfl) (by kernel_rfl) (by kernel_rfl) (by kernel_rfl) (by exact fun _ _ _ h => h) (Or.inl ⟨by rfl, ?h1⟩) (by assumption) ?r1
        case h1 => (intro w hSw; (try dsimp only at hSw); go_simp; try with_reducible rfl)
        try simp only [Act.put, List.setIfInBounds_toArray, List.set_cons_zero, List.set_cons_succ]
        refine wpAnyH_take (i := 1) (v := ?v2) (by simp only [List.getElem?_toArray, List.getElem?_cons_zero, List.getElem?_cons_succ]; rfl) (by kernel_rfl) (by kernel_rfl) (by kernel_rfl) (by exact fun _ _ _ h => h) (Or.inl ⟨by rfl, ?h2⟩) (by assumption) ?r2
        case h2 => (intro w hSw; (try dsimp only at hSw); go_simp; try with_reducible rfl)
        try simp only [Act.put, List.setIfInBounds_toArray, List.set_cons_zero, List.set_cons_succ]
        refine wpAnyH_take (i := 2) (v := ?v3) (by simp only [List.getElem?_toArray, List.getElem?_cons_zero, List.getElem?_cons_succ]; rfl) (by kernel_rfl) (by kernel_rfl) (by kernel_rfl) (by exact fun _ _ _ h => h) (Or.inl ⟨by rfl, ?h3⟩) (by assumption) ?r3
        case h3 => (intro w hSw; (try dsimp only at hSw); go_simp; try with_reducible rfl)
        try simp only [Act.put, List.setIfInBounds_toArray, List.set_cons_zero, List.set_cons_succ]
        refine wpAnyH_take (i := 3) (v := ?v4) (by simp only [List.getElem?_toArray, List.getElem?_cons_zero, List.getElem?_cons_succ]; rfl) (by kernel_rfl) (by kernel_rfl) (by kernel_rfl) (by exact fun _ _ _ h => h) (Or.inl ⟨by rfl, ?h4⟩) (by assumption) ?r4
        case h4 => (intro w hSw; (try dsimp only at hSw); go_simp; try with_reducible rfl)
        try simp only [Act.put, List.setIfInBounds_toArray, List.set_cons_zero, List.set_cons_succ]
        refine wpAnyH_take (i := 4) (v := ?v5) (by simp only [List.getElem?_toArray, List.getElem?_cons_zero, List.getElem?_cons_succ]; rfl) (by kernel_rfl) (by kernel_rfl) (by kernel_rfl) (by exact fun _ _ _ h => h) (Or.inl ⟨by rfl, ?h5⟩) (by assumption) ?r5
        case h5 => (intro w hSw; (try dsimp only at hSw); go_simp; try with_reducible rfl)
        try simp only [Act.put, List.setIfInBounds_toArray, List.set_cons_zero, List.set_cons_succ]
        refine wpAnyH_take (i := 5) (v := ?v6) (by simp only [List.getElem?_toArray, List.getElem?_cons_zero, List.getElem?_cons_succ]; rfl) (by kernel_rfl) (by kernel_rfl) (by kernel_rfl) (by exact fun _ _ _ h => h) (Or.inl ⟨by rfl, ?h6⟩) (by assumption) ?r6
        case h6 => (intro w hSw; (try dsimp only at hSw); go_simp; try with_reducible rfl)
        try simp only [Act.put, List.setIfInBounds_toArray, List.set_cons_zero, List.set_cons_succ]
        refine wpAnyH_take (i := 6) (v := ?v7) (by simp only [List.getElem?_toArray, List.getElem?_cons_zero, List.getElem?_cons_succ]; rfl) (by kernel_rfl) (by kernel_rfl) (by kernel_rfl) (by exact fun _ _ _ h => h) (Or.inl ⟨by rfl, ?h7⟩) (by assumption) ?r7
        case h7 => (intro w hSw; (try dsimp only at hSw); go_simp; try with_reducible rfl)
        try simp only [Act.put, List.setIfInBounds_toArray, List.set_cons_zero, List.set_cons_succ]
        refine wpAnyH_take (i := 7) (v := ?v8) (by simp only [List.getElem?_toArray, List.getElem?_cons_zero, List.getElem?_cons_succ]; rfl) (by kernel_rfl) (by kernel_rfl) (by kernel_rfl) (by exact fun _ _ _ h => h) (Or.inl ⟨by rfl, ?h8⟩) (by assumption) ?r8
        case h8 => (intro w hSw; (try dsimp only at hSw); go_simp; try with_reducible rfl)
        try simp only [Act.put, List.setIfInBounds_toArray, List.set_cons_zero, List.set_cons_succ]
        refine wpAnyH_ready (rs := [8]) (by kernel_rfl) (by simp) ?_
        refine (AllReadyH.cons (by simp only [List.getElem?_toArray, List.getElem?_cons_zero, List.getElem?_cons_succ]; rfl) (fun K hK => ?_) AllReadyH.nil)
        go_simp
        go_at_call 57
        refine (HA _ ((Below.refl wu.heap.size wu).drew)).mono ?_
        rintro e wq9 ⟨rfl, rfl⟩
        refine hK.out _ _ (SB _ (Below.refl wu.heap.size wu).drew) (fun hH10 => ?_)
        clear hK
        try simp only [Act.put, List.setIfInBounds_toArray, List.set_cons_zero, List.set_cons_succ]
        refine wpAnyH_ready (rs := [9]) (by kernel_rfl) (by simp) ?_
        refine (AllReadyH.cons (by simp only [List.getElem?_toArray, List.getElem?_cons_zero, List.getElem?_cons_succ]; rfl) (fun K hK => ?_) AllReadyH.nil)
        go_simp
        go_at_call 101
        refine (WA _ ((Below.refl wu.heap.size wu).drew)).mono ?_
        rintro e wq11 ⟨v11, rfl, o11, C11⟩
        obtain ⟨ea, ec, hev, EA11, -⟩ := o11.out (N := fun _ => False) (fun _ hf _ => hf.elim)
        subst hev
        have BB11 := ((Below.refl wu.heap.size wu).drew).trans (C11.mono (Below.size ((Below.refl wu.heap.size wu).drew)))
        refine hK.out _ _ (SB _ BB11) (fun hH12 => ?_)
        clear hK
        try simp only [Act.put, List.setIfInBounds_toArray, List.set_cons_zero, List.set_cons_succ]
        refine wpAnyH_take (i := 10) (v := ?v13) (by simp only [List.getElem?_toArray, List.getElem?_cons_zero, List.getElem?_cons_succ]; rfl) (by kernel_rfl) (by kernel_rfl) (by kernel_rfl) (by exact fun _ _ _ h => h) (Or.inl ⟨by rfl, ?h13⟩) (by assumption) ?r13
        case h13 => (intro w hSw; (try dsimp only at hSw); go_simp; try with_reducible rfl)
        try simp only [Act.put, List.setIfInBounds_toArray, List.set_cons_zero, List.set_cons_succ]
        refine wpAnyH_take (i := 11) (v := ?v14) (by simp only [List.getElem?_toArray, List.getElem?_cons_zero, List.getElem?_cons_succ]; rfl) (by kernel_rfl) (by kernel_rfl) (by kernel_rfl) (by exact fun _ _ _ h => h) (Or.inl ⟨by rfl, ?h14⟩) (by assumption) ?r14
        case h14 => (intro w hSw; (try dsimp only at hSw); go_simp; try with_reducible rfl)
        try simp only [Act.put, List.setIfInBounds_toArray, List.set_cons_zero, List.set_cons_succ]
        refine wpAnyH_take (i := 12) (v := ?v15) (by simp only [List.getElem?_toArray, List.getElem?_cons_zero, List.getElem?_cons_succ]; rfl) (by kernel_rfl) (by kernel_rfl) (by kernel_rfl) (by exact fun _ _ _ h => h) (Or.inl ⟨by rfl, ?h15⟩) (by assumption) ?r15
        case h15 => (intro w hSw; (try dsimp only at hSw); go_simp; try with_reducible rfl)
        try simp only [Act.put, List.setIfInBounds_toArray, List.set_cons_zero, List.set_cons_succ]
        refine wpAnyH_take (i := 13) (v := ?v16) (by simp only [List.getElem?_toArray, List.getElem?_cons_zero, List.getElem?_cons_succ]; rfl) (by kernel_rfl) (by kernel_rfl) (by kernel_rfl) (by exact fun _ _ _ h => h) (Or.inl ⟨by rfl, ?h16⟩) (by assumption) ?r16
        case h16 => (intro w hSw; (try dsimp only at hSw); go_simp; try with_reducible rfl)
        try simp only [Act.put, List.setIfInBounds_toArray, List.set_cons_zero, List.set_cons_succ]
        refine wpAnyH_take (i := 14) (v := ?v17) (by simp only [List.getElem?_toArray, List.getElem?_cons_zero, List.getElem?_cons_succ]; rfl) (by kernel_rfl) (by kernel_rfl) (by kernel_rfl) (by exact fun _ _ _ h => h) (Or.inl ⟨by rfl, ?h17⟩) (by assumption) ?r17
        case h17 => (intro w hSw; (try dsimp only at hSw); go_simp; try with_reducible rfl)
        try simp only [Act.put, List.setIfInBounds_toArray, List.set_cons_zero, List.set_cons_succ]
        refine wpAnyH_done (by kernel_rfl) ?_ _
        have SW := hid (SX.out.below (BB11))
        have SL0 := hid ((S0.out.trans ST.out).trans (LStep.of_below (M := M) (B := B) (BB11)))
        have SL1 := hid (ST.out.trans (LStep.of_below (M := M) (B := B) (BB11)))
        have LRW := hid (LR.out.below (BB11) (Nat.le_refl _))
        have EOW := hid o11
        have szw := Below.size (BB11)
        clear EA11 o11
        by_cases hc0 : cnt = 0
        · have HF := hid (show readL L.round (L.H s) (L.leaves.toNat + 1) (s.leavesOf L.leaves) 1 L.taken = T by rw [HR0.out, ← HRL.out, HSTEP.out, if_pos hc0])
          subst hc0
          go_wp2_with fail
          go_ret
          exact ⟨rfl, by rw [HF.out]; exact SW.out, SL0.out⟩
        · have hc1 : (((cnt : Nat) : Int) == 0) = false := by simpa using hc0
          have hc2 : ¬ (((cnt : Nat) : Int) = 0) := by simpa using hc0
          obtain ⟨gb, hg⟩ : ∃ gb, g' = some ⟨gb, a', none⟩ := ⟨_, h6 (by omega)⟩
          subst hg
          obtain ⟨ne, hne⟩ : ∃ ne, el.length = ne := ⟨_, rfl⟩
          have HNE := hid hne
          have hneb : ne < 65536 := by rw [← hne]; exact HELB.out
          obtain ⟨wv, hwv⟩ : ∃ wv : World, wv = wq11 := ⟨_, rfl⟩
          have lo96 : mb < wu.heap.size := SX.out.led.bs _ SX.out.led.bm
          have XMB : M.X mb := (SX.out.led.bx _ SX.out.led.bm).1
          have HREC := hid (show readL L.round H f' (ls.drop cnt) (no + 1) (putL T el) = RES by rw [← HRL.out, HSTEP.out, if_neg hc0])
          clear hne hwv HA WA
          rw [HNE.out]
          go_wp2_with fail
          go_loopw [57] (fun i wy => ∃ k : Nat, i = .int .i64 k ∧ k ≤ ne ∧ Hid (Sys wy M B d l mb s { L with taken := putL T (el.take k) }) ∧ Hid (LStep M B wo M B wy) ∧ Hid (EntsOwn wy wu.heap.size (.slice ea el.length ec) el) ∧ Hid (LvRow wy (fun q => M q ∨ M.X q) (some ⟨gb, a', none⟩) n' ls)) (fun i _ => ne - (intOf i).toNat)
          case atStart => exact ⟨0, rfl, Nat.zero_le _, SW, SL1, EOW, LRW⟩
          case round =>
            obtain ⟨k, rfl, hk, SY, SZ, EO, LY⟩ := hrel
            by_cases hlt : k < ne
            · obtain ⟨⟨xa, xz⟩, hx⟩ : ∃ x, el[k]? = some x := ⟨_, List.getElem?_eq_getElem (by rw [HNE.out]; exact hlt)⟩
              obtain ⟨ea1, e0, b, c, e1, rz, hz96, hzb, hc96, hlo, hxa⟩ := EO.out.at rfl hx
              obtain ⟨hm1, hm2, -⟩ := HEL.out _ (List.mem_of_getElem? hx)
              simp only at e0 e1 rz hz96 hzb hxa hm1 hm2
              have hixk : ∀ w', (Instr.indexAt 77 (.slice ea ne ec) (.int .i64 k)).run Tryz.prog w' = .ok (.pointer (some ⟨sB ea, sO ea + k * 2, none⟩)) w' := fun w' => idx_at (P := Tryz.prog) Tryz.underlying77 szEnt (fun _ => ea1) hlt w'
              have HPS := hid (putL_succ (t := T) hx)
              obtain ⟨W1, hW1⟩ : ∃ W1, wr.alloc (.cells #[.int .i64 xa, .slice (some b) 96 c] 100) = W1 := ⟨_, rfl⟩
              have BW1 : Below wr.heap.size wr W1 := by rw [← hW1]; exact (Below.refl _ _).alloc (Nat.le_refl _) _
              have x1 : W1.heap[wr.heap.size]? = some (.cells #[.int .i64 xa, .slice (some b) 96 c] 100 (0, 0)) := by rw [← hW1]; exact blk_new _ _
              have hmbW := SY.out.led.bs _ SY.out.led.bm
              obtain ⟨xb, hxb⟩ : ∃ xb, wr.heap.size = xb := ⟨_, rfl⟩
              rw [hxb] at x1 hmbW
              have y0 : W1.cell? ⟨xb, 0, none⟩ = some (.int .i64 xa) := blk_cell x1 rfl
              have y1 : W1.cell? ⟨xb, 1, none⟩ = some (.slice (some b) 96 c) := blk_cell x1 rfl
              have nxm : ¬ (xb = mb) := by omega
              have SY1 := hid (SY.out.below BW1)
              have SY2 := hid (SZ.out.trans (LStep.of_below (M := M) (B := B) BW1))
              have EO1 := hid (EO.out.below BW1 (Nat.le_refl _))
              have LR1 := hid (LY.out.below BW1 (Nat.le_refl _))
              obtain ⟨-, -, -, -, -, f5, -⟩ := SY1.out.led.cells
              have nlm : ¬ (l = mb) := fun e => by
                obtain ⟨V, t1, -⟩ := SY1.out.led.tkn.out
                obtain ⟨es, cl, t2⟩ := t1.blk
                rw [← e, SY1.out.led.obj] at t2
                cases t2
              have lmb : mb < wu.heap.size := by first | exact lo96 | omega
              have TRK := hid (show Trk W1.drew M (.slice (some b) 96 c) xz ∧ (0 ≤ xa ∧ xa < 4096) from ⟨⟨b, c, rfl, (rz.below BW1 (Nat.le_refl _)).keep (fun _ => rfl), hz96, fun hm => by
                have h7 := hm.elim (SX.out.drum.ml _) (SX.out.drum.xl _)
                have h8 : wu.heap.size ≤ b.block := hlo
                omega, hzb, hc96⟩, hm1, by omega⟩)
              have S18 : W1.drew.cell? ⟨l, 5, none⟩ = some (.map (some mb)) ∧ W1.drew.cell? ⟨xb, 0, none⟩ = some (.int .i64 xa) ∧ W1.drew.cell? ⟨xb, 1, none⟩ = some (.slice (some b) 96 c) := ⟨f5, y0, y1⟩
              clear hx x1 ea1 rz hz96 hzb SY SZ EO LY BW1
              go_wp2_with fail
              refine wp_region_held_drew (S := fun w' => w'.cell? ⟨l, 5, none⟩ = some (.map (some mb)) ∧ w'.cell? ⟨xb, 0, none⟩ = some (.int .i64 xa) ∧ w'.cell? ⟨xb, 1, none⟩ = some (.slice (some b) 96 c)) (by kernel_rfl) S18 (fun hHeld => ?_)
              refine wpAnyH_take (i := 0) (v := ?v18) (by simp only [List.getElem?_toArray, List.getElem?_cons_zero]; rfl) (by kernel_rfl) (by kernel_rfl) (by kernel_rfl) (by exact fun _ _ _ h => h) (Or.inl ⟨by rfl, ?h18⟩) (by assumption) ?r18
              case h18 => (intro w hSw; (try dsimp only at hSw); go_simp; try with_reducible rfl)
              try simp only [Act.put, List.setIfInBounds_toArray, List.set_cons_zero, List.set_cons_succ]
              refine wpAnyH_take (i := 1) (v := ?v19) (by simp only [List.getElem?_toArray, List.getElem?_cons_zero, List.getElem?_cons_succ]; rfl) (by kernel_rfl) (by kernel_rfl) (by kernel_rfl) (by exact fun _ _ _ h => h) (Or.inl ⟨by rfl, ?h19⟩) (by assumption) ?r19
              case h19 => (intro w hSw; (try dsimp only at hSw); go_simp; try with_reducible rfl)
              try simp only [Act.put, List.setIfInBounds_toArray, List.set_cons_zero, List.set_cons_succ]
              refine wpAnyH_take (i := 2) (v := ?v20) (by simp only [List.getElem?_toArray, List.getElem?_cons_zero, List.getElem?_cons_succ]; rfl) (by kernel_rfl) (by kernel_rfl) (by kernel_rfl) (by exact fun _ _ _ h => h) (Or.inl ⟨by rfl, ?h20⟩) (by assumption) ?r20
              case h20 => (intro w hSw; (try dsimp only at hSw); go_simp; try with_reducible rfl)
              try simp only [Act.put, List.setIfInBounds_toArray, List.set_cons_zero, List.set_cons_succ]
              refine wpAnyH_take (i := 3) (v := ?v21) (by simp only [List.getElem?_toArray, List.getElem?_cons_zero, List.getElem?_cons_succ]; rfl) (by kernel_rfl) (by kernel_rfl) (by kernel_rfl) (by exact fun _ _ _ h => h) (Or.inl ⟨by rfl, ?h21⟩) (by assumption) ?r21
              case h21 => (intro w hSw; (try dsimp only at hSw); go_simp; try with_reducible rfl)
              try simp only [Act.put, List.setIfInBounds_toArray, List.set_cons_zero, List.set_cons_succ]
              refine wpAnyH_take (i := 4) (v := ?v22) (by simp only [List.getElem?_toArray, List.getElem?_cons_zero, List.getElem?_cons_succ]; rfl) (by kernel_rfl) (by kernel_rfl) (by kernel_rfl) (by exact fun _ _ _ h => h) (Or.inl ⟨by rfl, ?h22⟩) (by assumption) ?r22
              case h22 => (intro w hSw; (try dsimp only at hSw); go_simp; try with_reducible rfl)
              try simp only [Act.put, List.setIfInBounds_toArray, List.set_cons_zero, List.set_cons_succ]
              refine wpAnyH_take (i := 5) (v := ?v23) (by simp only [List.getElem?_toArray, List.getElem?_cons_zero, List.getElem?_cons_succ]; rfl) (by kernel_rfl) (by kernel_rfl) (by kernel_rfl) (by exact fun _ _ _ h => h) (Or.inl ⟨by rfl, ?h23⟩) (by assumption) ?r23
              case h23 => (intro w hSw; (try dsimp only at hSw); go_simp; try with_reducible rfl)
              try simp only [Act.put, List.setIfInBounds_toArray, List.set_cons_zero, List.set_cons_succ]
              refine wpAnyH_take (i := 6) (v := ?v24) (by simp only [List.getElem?_toArray, List.getElem?_cons_zero, List.getElem?_cons_succ]; rfl) (by kernel_rfl) (by kernel_rfl) (by kernel_rfl) (by exact fun _ _ _ h => h) (Or.inl ⟨by rfl, ?h24⟩) (by assumption) ?r24
              case h24 => (intro w hSw; (try dsimp only at hSw); go_simp; try with_reducible rfl)
              try simp only [Act.put, List.setIfInBounds_toArray, List.set_cons_zero, List.set_cons_succ]
              refine wpAnyH_take (i := 7) (v := ?v25) (by simp only [List.getElem?_toArray, List.getElem?_cons_zero, List.getElem?_cons_succ]; rfl) (by kernel_rfl) (by kernel_rfl) (by kernel_rfl) (by exact fun _ _ _ h => h) (Or.inl ⟨by rfl, ?h25⟩) (by assumption) ?r25
              case h25 => (intro w hSw; (try dsimp only at hSw); go_simp; try with_reducible rfl)
              try simp only [Act.put, List.setIfInBounds_toArray, List.set_cons_zero, List.set_cons_succ]
              refine wpAnyH_ready (rs := [8]) (by kernel_rfl) (by simp) ?_
              refine (AllReadyH.cons (by simp only [List.getElem?_toArray, List.getElem?_cons_zero, List.getElem?_cons_succ]; rfl) (fun K hK => ?_) AllReadyH.nil)
              obtain ⟨wm, hrun, TK, kx⟩ := (SY1.out.below (Below.refl _ _).drew).led.tkn.store (x := (xa, xz)) TRK.out.1 TRK.out.2 XMB
              simp only at hrun
              go_simp
              refine hK.out _ _ ⟨kx.cell nlm f5, kx.cell nxm y0, kx.cell nxm y1⟩ (fun hH26 => ?_)
              clear hK
              try simp only [Act.put, List.setIfInBounds_toArray, List.set_cons_zero, List.set_cons_succ]
              refine wpAnyH_done (by kernel_rfl) ?_ _
              have SYN := (SY1.out.below (Below.refl _ _).drew).tknPut kx TK
              have SN := hid (show Sys wm M B d l mb s { L with taken := putL T (el.take (k + 1)) } by rw [HPS.out]; exact SYN.1)
              have SL := hid ((SY2.out.trans (LStep.of_below (Below.refl _ _).drew)).trans SYN.2)
              have EN := hid ((EO1.out.below (Below.refl _ _).drew (Nat.le_refl _)).keep kx (fun q hq => by subst hq; exact lmb))
              have LN := hid ((LR1.out.below (Below.refl _ _).drew (Nat.le_refl _)).keep kx (fun q hq _ => by subst hq; exact .inr XMB))
              clear TK kx SYN hrun
              go_wp2_with fail
              go_roundw
              case measure => simp [intOf]; omega
              case rel => exact ⟨k + 1, by go_num, by omega, SN, SL, EN, LN⟩
            · obtain rfl : ne = k := by omega
              have SYF := hid (show Sys wr M B d l mb s { L with taken := putL T el } by have := SY.out; rwa [List.take_of_length_le (by rw [HNE.out]; exact Nat.le_refl _)] at this)
              have p1 : (cnt : Int) ≤ (n' : Int) := by omega
              have p2 : (n' : Int) ≤ (c' : Int) := by omega
              have hnum : (no : Int) + 1 ≤ 1000000 := by omega
              have LYH := hid LY.out
              have SZH := hid SZ.out
              have hcnt0 : 0 < cnt := by omega
              clear SY EO SZ LY
              by_cases hcc : c' = cnt
              · subst hcc
                have LF := hid (show LvRow wr (fun q => M q ∨ M.X q) (some ⟨gb, a', none⟩) (n' - c') (ls.drop c') by rw [show n' - c' = 0 by omega, List.drop_eq_nil_of_le (by rw [LYH.out.len]; omega)]; exact LvRow.empty _ _ _)
                go_wp2_with fail
                go_roundg f'
                case measure => have := hq.out; omega
                case rel => exact ⟨f', no + 1, n' - c', a', c' - c', some ⟨gb, a', none⟩, ls.drop c', putL T el, hid rfl, by first | rfl | (simp; done) | (simp; omega), by go_num, by omega, by omega, by omega, by omega, by omega, fun h => by omega, LF, SYF, SZH, HREC⟩
              · have LF := hid (LYH.out.drop cnt)
                go_wp2_with fail
                go_roundg f'
                case measure => have := hq.out; omega
                case rel => exact ⟨f', no + 1, n' - cnt, a' + cnt, c' - cnt, some ⟨gb, a' + cnt, none⟩, ls.drop cnt, putL T el, hid rfl, rfl, by go_num, by omega, by omega, by omega, by omega, by omega, fun h => rfl, LF, SYF, SZH, HREC⟩

end Go.Proofs.YtleoelhhndeheaaGreat
