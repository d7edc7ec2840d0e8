/- package ledger: a ledger in memory; the small methods -/
import Derived.Test.YtleoelhhndeheaaGreatLedH
import Derived.Test.YtleoelhhndeheaaGreatLedC
open Go Go.RowKit
open Go.Maps (Keyed has)
namespace Go.Proofs.YtleoelhhndeheaaGreat

theorem nodup_lt : ∀ (n : Nat) (l : List Nat), l.Nodup → (∀ x ∈ l, x < n) → l.length ≤ n
  | 0, l, _, h => by
    cases l with
    | nil => exact Nat.le_refl _
    | cons x r => exact absurd (h x (List.mem_cons_self ..)) (by omega)
  | n + 1, l, hd, h => by
    have h1 := nodup_lt n (l.erase n) (hd.erase n) (fun x hx => by
      have h2 := h x (List.mem_of_mem_erase hx)
      have h3 : x ≠ n := fun e => by subst e; exact (List.Nodup.not_mem_erase hd) hx
      omega)
    by_cases hm : n ∈ l
    · rw [List.length_erase_of_mem hm] at h1; omega
    · rw [List.erase_of_not_mem hm] at h1; omega

theorem _root_.Go.World.ownsMap.intKeyed {w : World} {b n : Nat} {D : DataW Value} (h1 : w.ownsMap Tryz.prog 3 rawE b n D) : ∀ es : List (Lit × DataW Value), D = .map es → ∀ p ∈ es, ∃ x : Int, p.1 = ky x := by
  obtain ⟨es, c, hb, F, hs, hD⟩ := h1
  intro es' he p hp
  rw [hD] at he
  cases he
  have hp := (Go.WideShapes.sorted_perm _).mem_iff.1 hp
  obtain ⟨x, hx, rfl⟩ := List.mem_map.1 hp
  obtain ⟨y, hy⟩ := F.reads x hx
  have hk := Go.WideElems.rd_key hy
  rw [Go.WideElems.rg_of hy]
  have hu := Tryz.underlying3
  cases hkk : x.key with
  | int q a =>
    rw [hkk] at hk
    simp [keyOf, hu, mapKey] at hk
    obtain ⟨⟨rfl, _⟩, hk⟩ := hk
    exact ⟨a, hk.symm⟩
  | _ => rw [hkk] at hk; simp [keyOf, hu, mapKey] at hk

theorem IMap.small {w : World} {b n : Nat} {T : Int → Option Value} (h : IMap w b n T) {H : Nat} (hk : ∀ x, (T x).isSome → 0 ≤ x ∧ x < H) : IMap w b H T := by
  obtain ⟨D, h1, h2, h3⟩ := h.out
  refine ⟨D, ?_, h2, h3⟩
  have td := h1.tidy iK
  have hkeys := h1.intKeyed
  obtain ⟨es, c, hb, F, hs, hD⟩ := h1
  refine ⟨es, c, hb, F, ?_, hD⟩
  obtain ⟨es', he, hpw⟩ := td
  have hlen : es.size = es'.length := by
    rw [hD] at he
    cases he
    rw [length_sorted]; simp
  rw [hlen]
  have hall := hkeys es' he
  have hnn : ∀ p ∈ es', ∃ k : Nat, p.1 = ky k ∧ k < H := fun p hp => by
    obtain ⟨x, hx⟩ := hall p hp
    have hh : has D (ky x) = true := by
      rw [he]
      show es'.any (fun q => q.1.sameKey (ky x)) = true
      rw [List.any_eq_true]
      exact ⟨p, hp, by rw [hx]; simp [Lit.sameKey]⟩
    rw [h2] at hh
    have := hk x hh
    exact ⟨x.toNat, by rw [hx, show ((x.toNat : Nat) : Int) = x by omega], by omega⟩
  have h5 := nodup_lt H (es'.map fun p => match p.1 with | .int _ a => a.toNat | _ => 0) (by
    refine List.pairwise_map.2 (hpw.imp_of_mem fun {p q} hp hq hne e => hne ?_)
    obtain ⟨a, ha, -⟩ := hnn p hp
    obtain ⟨b, hb, -⟩ := hnn q hq
    rw [ha, hb] at e ⊢
    have e : a = b := by simpa [ky] using e
    rw [e]) (fun x hx => by
    obtain ⟨p, hp, rfl⟩ := List.mem_map.1 hx
    obtain ⟨a, ha, hl⟩ := hnn p hp
    rw [ha]
    simpa [ky] using hl)
  rw [List.length_map] at h5
  exact h5

/-- what was taken, in a map -/
structure TknAt (w : World) (M : Dom) (mb : Nat) (T : Tkn) : Prop where
  out : ∃ V, IMap w mb 4096 V ∧ ∀ x, (V x = none ∧ T x = none) ∨ ∃ v zs, V x = some v ∧ T x = some zs ∧ Trk w M v zs
  ks : ∀ x, (T x).isSome → 0 ≤ x ∧ x < 4096
theorem Trk.step {w w' : World} {M M' : Dom} {v : Value} {zs : List Int} (h : Trk w M v zs) {F : Nat → Prop} (k : Ext F w w') (hF : ∀ q, F q → M q ∨ M.X q) (hM : ∀ q, M' q ∨ M'.X q → (M q ∨ M.X q) ∨ w.heap.size ≤ q) : Trk w' M' v zs := by
  obtain ⟨a, c, h1, h2, h3, h4, h5⟩ := h
  have hlt : a.block < w.heap.size := h2.lt (by rw [B8_length]; omega)
  refine ⟨a, c, h1, h2.ext k (fun _ hf => h4 (hF _ hf)), h3, fun hm => ?_, h5⟩
  rcases hM _ hm with h | h
  · exact h4 h
  · omega
theorem TknAt.step {w w' : World} {M M' : Dom} {mb : Nat} {T : Tkn} (h : TknAt w M mb T) {F : Nat → Prop} (k : Ext F w w') (hF : ∀ q, F q → M q ∨ M.X q) (hb : ¬ F mb) (hM : ∀ q, M' q ∨ M'.X q → (M q ∨ M.X q) ∨ w.heap.size ≤ q) : TknAt w' M' mb T := by
  obtain ⟨V, h1, h2⟩ := h.out
  refine ⟨⟨V, h1.ext k hb, fun x => ?_⟩, h.ks⟩
  rcases h2 x with h | ⟨v, zs, e1, e2, ht⟩
  · exact .inl h
  · exact .inr ⟨v, zs, e1, e2, ht.step k hF hM⟩

abbrev ledCells (d mb : Nat) (L : LS) : Array Value := #[.pointer (some ⟨d, 0, none⟩), .int .i64 L.round, .int .i64 L.leaves, .int .i64 L.used, .int .i64 L.last, .map (some mb), .bool L.lost]
/-- a ledger on a drum: B its own blocks -/
structure LedP (w : World) (M : Dom) (B : Nat → Prop) (d l mb : Nat) (L : LS) : Prop where
  obj : w.heap[l]? = some (.cells (ledCells d mb L) 122 (0, 0))
  tkn : TknAt w M mb L.taken
  bl : B l
  bm : B mb
  bx : ∀ q, B q → M.X q ∧ ¬ M q
  bs : ∀ q, B q → q < w.heap.size
def LedAt (w : World) (M : Dom) (B : Nat → Prop) (d l : Nat) (L : LS) : Prop := ∃ mb, LedP w M B d l mb L

structure LStep (M : Dom) (B : Nat → Prop) (w : World) (M' : Dom) (B' : Nat → Prop) (w' : World) : Prop where
  ext : Ext (fun q => M q ∨ B q) w w'
  new : ∀ q, M' q → M q ∨ w.heap.size ≤ q
  newB : ∀ q, B' q → B q ∨ w.heap.size ≤ q
  newX : ∀ q, M'.X q → M.X q ∨ w.heap.size ≤ q
  oldX : ∀ q, M.X q → M'.X q
theorem LStep.refl (M : Dom) (B : Nat → Prop) (w : World) : LStep M B w M B w := ⟨Ext.refl _ _, fun _ h => .inl h, fun _ h => .inl h, fun _ h => .inl h, fun _ h => h⟩
theorem LStep.trans {M M' M'' : Dom} {B B' B'' : Nat → Prop} {w w' w'' : World} (h : LStep M B w M' B' w') (k : LStep M' B' w' M'' B'' w'') : LStep M B w M'' B'' w'' := by
  have hs := h.ext.size
  refine ⟨h.ext.trans k.ext (fun i hi hg => ?_), fun q hq => ?_, fun q hq => ?_, fun q hq => ?_, fun q hq => k.oldX q (h.oldX q hq)⟩
  · rcases hg with hg | hg
    · exact (h.new i hg).elim .inl (fun e => by omega)
    · exact (h.newB i hg).elim .inr (fun e => by omega)
  · exact (k.new q hq).elim (h.new q) (fun e => .inr (by omega))
  · exact (k.newB q hq).elim (h.newB q) (fun e => .inr (by omega))
  · exact (k.newX q hq).elim (h.newX q) (fun e => .inr (by omega))
theorem LStep.of_step {M M' : Dom} {B : Nat → Prop} {w w' : World} (k : Step M w M' w') : LStep M B w M' B w' :=
  ⟨k.ext.mono (fun _ _ h => .inl h), k.new, fun _ h => .inl h, fun q h => .inl (k.same ▸ h), fun q h => by rw [k.same]; exact h⟩
theorem LStep.of_below {M : Dom} {B : Nat → Prop} {w w' : World} (k : Below w.heap.size w w') : LStep M B w M B w' :=
  ⟨Ext.of_below k _, fun _ h => .inl h, fun _ h => .inl h, fun _ h => .inl h, fun _ h => h⟩

/-- the drum goes a step -/
theorem LedP.step {w w' : World} {M M' : Dom} {B : Nat → Prop} {d l mb : Nat} {L : LS} (h : LedP w M B d l mb L) (k : Step M w M' w') : LedP w' M' B d l mb L := by
  have hM : ∀ q, M' q ∨ M'.X q → (M q ∨ M.X q) ∨ w.heap.size ≤ q := fun q hq => hq.elim (fun h => (k.new q h).imp .inl id) (fun h => .inl (.inr (k.same ▸ h)))
  refine ⟨k.ext.blk (h.bx l h.bl).2 h.obj, h.tkn.step k.ext (fun q hq => .inl hq) (h.bx mb h.bm).2 hM, h.bl, h.bm, fun q hq => ⟨by rw [k.same]; exact (h.bx q hq).1, fun hm => ?_⟩, fun q hq => Nat.lt_of_lt_of_le (h.bs q hq) k.ext.size⟩
  rcases k.new q hm with h1 | h1
  · exact (h.bx q hq).2 h1
  · have := h.bs q hq; omega
theorem LedP.below {w w' : World} {M : Dom} {B : Nat → Prop} {d l mb : Nat} {L : LS} (h : LedP w M B d l mb L) (k : Below w.heap.size w w') : LedP w' M B d l mb L := by
  have kx := Ext.of_below k (fun _ => False)
  exact ⟨kx.blk id h.obj, h.tkn.step kx (fun _ hf => hf.elim) id (fun q hq => .inl hq), h.bl, h.bm, h.bx, fun q hq => Nat.lt_of_lt_of_le (h.bs q hq) k.size⟩

/-- numbers within their bounds -/
structure LS.Ok (L : LS) (s : DS) : Prop where
  n1 : s.n ≤ 4096
  r : 0 ≤ L.round ∧ L.round < 281474976710000
  l : 5 ≤ L.leaves ∧ L.leaves + 4 ≤ s.n
  u : 0 ≤ L.used ∧ L.used ≤ L.leaves
  k : 0 ≤ L.last ∧ L.last < 1000000000
  t : ∀ x, (L.taken x).isSome → 0 ≤ x ∧ x < s.n - (2 + L.leaves)
  z : ∀ x zs, L.taken x = some zs → zs.length = 96 ∧ IsBytes zs

structure LS.Lv (L : LS) (s : DS) : Prop where
  n1 : s.n ≤ 4096
  l : 5 ≤ L.leaves ∧ L.leaves + 4 ≤ s.n
theorem LS.Ok.lv {L : LS} {s : DS} (h : L.Ok s) : L.Lv s := ⟨h.n1, h.l⟩

theorem LedP.cells {w : World} {M : Dom} {B : Nat → Prop} {d l mb : Nat} {L : LS} (h : LedP w M B d l mb L) :
    w.cell? ⟨l, 0, none⟩ = some (.pointer (some ⟨d, 0, none⟩)) ∧ w.cell? ⟨l, 1, none⟩ = some (.int .i64 L.round) ∧ w.cell? ⟨l, 2, none⟩ = some (.int .i64 L.leaves) ∧ w.cell? ⟨l, 3, none⟩ = some (.int .i64 L.used) ∧
      w.cell? ⟨l, 4, none⟩ = some (.int .i64 L.last) ∧ w.cell? ⟨l, 5, none⟩ = some (.map (some mb)) ∧ w.cell? ⟨l, 6, none⟩ = some (.bool L.lost) :=
  ⟨blk_cell h.obj rfl, blk_cell h.obj rfl, blk_cell h.obj rfl, blk_cell h.obj rfl, blk_cell h.obj rfl, blk_cell h.obj rfl, blk_cell h.obj rfl⟩
/-- a field of the ledger is written -/
theorem LedP.put {w : World} {M : Dom} {B : Nat → Prop} {d l mb : Nat} {L L' : LS} (h : LedP w M B d l mb L) {o : Nat} {v : Value} (hc : (ledCells d mb L).setIfInBounds o v = ledCells d mb L') (ht : L'.taken = L.taken) : LedP (w.setCell ⟨l, o, none⟩ v) M B d l mb L' := by
  have kx : Ext (· = l) w (w.setCell ⟨l, o, none⟩ v) := ⟨rfl, rfl, rfl, by simp, fun q hq hf => Below.heap_setCell _ _ _ _ hf⟩
  have hne : ¬ (mb = l) := fun e => by
    obtain ⟨V, h1, -⟩ := h.tkn.out
    obtain ⟨es, c, h2⟩ := h1.blk
    rw [e, h.obj] at h2
    cases h2
  refine ⟨by rw [← hc]; exact blk_setCell h.obj v, ?_, h.bl, h.bm, h.bx, fun q hq => by have := h.bs q hq; simpa using this⟩
  rw [ht]
  exact h.tkn.step kx (fun q hq => by subst hq; exact .inr (h.bx _ h.bl).1) hne (fun q hq => .inl hq)
theorem LStep.put {w : World} {M : Dom} {B : Nat → Prop} {l : Nat} (h : B l) (o : Nat) (v : Value) : LStep M B w M B (w.setCell ⟨l, o, none⟩ v) :=
  ⟨⟨rfl, rfl, rfl, by simp, fun q hq hf => Below.heap_setCell _ _ _ _ (fun e => hf (.inr (e ▸ h)))⟩, fun _ h => .inl h, fun _ h => .inl h, fun _ h => .inl h, fun _ h => h⟩

/-- a drum and a ledger on it -/
structure Sys (w : World) (M : Dom) (B : Nat → Prop) (d l mb : Nat) (s : DS) (L : LS) : Prop where
  drum : DrumAt w M d s
  led : LedP w M B d l mb L
theorem Sys.below {w w' : World} {M : Dom} {B : Nat → Prop} {d l mb : Nat} {s : DS} {L : LS} (h : Sys w M B d l mb s L) (k : Below w.heap.size w w') : Sys w' M B d l mb s L := ⟨h.drum.below k, h.led.below k⟩
theorem Sys.step {w w' : World} {M M' : Dom} {B : Nat → Prop} {d l mb : Nat} {s s' : DS} {L : LS} (h : Sys w M B d l mb s L) (hd : DrumAt w' M' d s') (k : Step M w M' w') : Sys w' M' B d l mb s' L := ⟨hd, h.led.step k⟩
theorem Sys.put {w : World} {M : Dom} {B : Nat → Prop} {d l mb : Nat} {s : DS} {L L' : LS} (h : Sys w M B d l mb s L) {o : Nat} {v : Value} (hc : (ledCells d mb L).setIfInBounds o v = ledCells d mb L') (ht : L'.taken = L.taken) : Sys (w.setCell ⟨l, o, none⟩ v) M B d l mb s L' := by
  have kx : Ext (· = l) w (w.setCell ⟨l, o, none⟩ v) := ⟨rfl, rfl, rfl, by simp, fun q hq hf => Below.heap_setCell _ _ _ _ hf⟩
  exact ⟨h.drum.other kx (fun q hq => by subst hq; exact (h.led.bx _ h.led.bl).1) (fun q hq => by subst hq; exact (h.led.bx _ h.led.bl).2), h.led.put hc ht⟩

theorem homeAt_any {w : World} {M : Dom} {B : Nat → Prop} {d l mb : Nat} {s : DS} {L : LS} (h : Sys w M B d l mb s L) (ok : L.Lv s) (k : Int) (hk : -1000000 ≤ k ∧ k ≤ 1000000) :
    Calls Tryz.prog 87 #[.pointer (some ⟨l, 0, none⟩), .int .i64 k] w fun e w' => e = .returned (.int .i64 (2 + L.leaves + k)) ∧ w = w' := by
  obtain ⟨-, -, c2, -⟩ := h.led.cells
  have h1 := ok.l
  have h2 := ok.n1
  clear h
  go_enter Tryz.func87, Tryz.ntmps87
  go_wp2_with fail
  go_ret
  exact ⟨rfl, rfl⟩

theorem home_any {w : World} {M : Dom} {B : Nat → Prop} {d l mb : Nat} {s : DS} {L : LS} (h : Sys w M B d l mb s L) (ok : L.Lv s) :
    Calls Tryz.prog 57 #[.pointer (some ⟨l, 0, none⟩)] w fun e w' => e = .returned (.int .i64 ((L.H s : Nat) : Int)) ∧ w = w' := by
  obtain ⟨c0, -⟩ := h.led.cells
  have TA := tracks_any h.drum
  have HA := homeAt_any h ok 0 (by omega)
  have h1 := ok.l
  have h2 := ok.n1
  have HE := hid (show (s.n : Int) - (2 + L.leaves + 0) = ((L.H s : Nat) : Int) by unfold LS.H; omega)
  clear h
  go_enter Tryz.func57, Tryz.ntmps57
  go_wp2_with fail
  refine TA.mono ?_
  rintro e w1 ⟨rfl, rfl⟩
  clear TA
  go_wp2_with fail
  refine HA.mono ?_
  rintro e w1 ⟨rfl, rfl⟩
  clear HA
  go_wp2_with fail
  go_ret
  exact ⟨ret_int (by have := HE.out; omega), rfl⟩

theorem blank_any {w : World} {M : Dom} {B : Nat → Prop} {d l mb : Nat} {s : DS} {L : LS} (h : Sys w M B d l mb s L) (ok : L.Ok s) :
    Calls Tryz.prog 70 #[.pointer (some ⟨l, 0, none⟩)] w fun e w' => e = .returned (.int .i64 (L.leaves - L.used)) ∧ Below w.heap.size w w' := by
  obtain ⟨-, -, c2, c3, -⟩ := h.led.cells
  have h1 := ok.l
  have h2 := ok.n1
  have h3 := ok.u
  clear h
  go_enter Tryz.func70, Tryz.ntmps70
  go_wp2_with fail
  go_region_held3 (fun w' => w'.cell? ⟨l, 2, none⟩ = some (.int .i64 L.leaves) ∧ w'.cell? ⟨l, 3, none⟩ = some (.int .i64 L.used)) (first | exact ⟨c2, c3⟩ | assumption) (fail)
  go_wp2_with fail
  go_ret
  exact ⟨by first | rfl | exact ret_int (by have e : IntKind.i64.wrap (L.leaves - L.used) = L.leaves - L.used := IntWalk.i64_in _ (by omega); exact e), (Below.refl _ _).drew⟩

theorem lost_any {w : World} {M : Dom} {B : Nat → Prop} {d l mb : Nat} {s : DS} {L : LS} (h : Sys w M B d l mb s L) :
    Calls Tryz.prog 59 #[.pointer (some ⟨l, 0, none⟩)] w fun e w' => e = .returned (.bool L.lost) ∧ w = w' := by
  obtain ⟨-, -, -, -, -, -, c6⟩ := h.led.cells
  clear h
  go_enter Tryz.func59, Tryz.ntmps59
  go_wp2_with fail
  go_ret
  exact ⟨rfl, rfl⟩

theorem ends_any {w : World} {M : Dom} {B : Nat → Prop} {d l mb : Nat} {s : DS} {L : LS} (h : Sys w M B d l mb s L) (e0 : Int) :
    Calls Tryz.prog 71 #[.pointer (some ⟨l, 0, none⟩), .int .i64 e0] w fun e w' => e = .returned (.int .i64 e0) ∧ Sys w' M B d l mb s (L.ends e0) ∧ LStep M B w M B w' := by
  obtain ⟨-, -, -, -, -, -, c6⟩ := h.led.cells
  have fr := fun o => blk_free (o := o) h.led.obj
  have HP := hid (fun b : Bool => (h.put (o := 6) (v := .bool b) (L' := { L with lost := b }) rfl rfl))
  have HS := hid (fun b : Bool => LStep.put (w := w) (M := M) h.led.bl 6 (.bool b))
  have HE := hid (show L.ends e0 = { L with lost := L.lost || decide (e0 = 4) } from rfl)
  clear h
  obtain ⟨lo, hlo⟩ : ∃ lo, L.lost = lo := ⟨_, rfl⟩
  rw [hlo] at c6 HE
  clear hlo
  cases lo with
  | true =>
    go_enter Tryz.func71, Tryz.ntmps71
    go_wp2_with fail
    go_ret
    exact ⟨rfl, by rw [HE.out]; exact HP.out true, HS.out true⟩
  | false =>
    by_cases he : e0 = 4
    · subst he
      go_enter Tryz.func71, Tryz.ntmps71
      go_wp2_with fail
      go_ret
      exact ⟨rfl, by rw [HE.out]; exact HP.out true, HS.out true⟩
    · have he1 : (e0 == 4) = false := by simpa using he
      have HD := hid (show (false || decide (e0 = 4)) = false by simpa using he)
      go_enter Tryz.func71, Tryz.ntmps71
      go_wp2_with fail
      go_ret
      exact ⟨rfl, by rw [HE.out, HD.out]; exact HP.out false, HS.out false⟩

end Go.Proofs.YtleoelhhndeheaaGreat
