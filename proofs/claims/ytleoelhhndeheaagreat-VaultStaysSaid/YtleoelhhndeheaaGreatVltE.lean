import Derived.Test.YtleoelhhndeheaaGreatLedB
import Derived.Test.YtleoelhhndeheaaGreatLedJ
import Derived.Test.YtleoelhhndeheaaGreatLedC
import Derived.Maps.RangeWalk
import Derived.Test.YtleoelhhndeheaaGreatIRow
import Derived.Test.YtleoelhhndeheaaGreatLedN
import Derived.StillTailTactics
/- package vault, said plainly -/
open Go Go.RowKit
namespace Go.Proofs.YtleoelhhndeheaaGreat

/-- how many tracks so many bytes take -/
def takes (n : Nat) : Nat := max 1 (n / 80 + min 1 (n % 80))
/-- records: by number, their bytes and the tracks on which they lie -/
abbrev Rcs := Int → Option (List Int × List Int)
def noRcs : Rcs := fun _ => none
def Rcs.bytes (R : Rcs) (i : Int) : List Int := ((R i).map (·.1)).getD []
def Rcs.trks (R : Rcs) (i : Int) : List Int := ((R i).map (·.2)).getD []
def ids40 : List Int := (List.range 40).map fun (k : Nat) => (k : Int) + 1
/-- the list's track -/
def listB (R : Rcs) : List Int := ids40.flatMap fun i => lay2 ((R.trks i).headD 0)
def listT (R : Rcs) : List Int := closed (listB R)
/-- the track on which the i-th part of a record lies -/
def recB (id : Int) (b : List Int) (l : List Int) (i : Nat) : List Int := lay2 ((l[i + 1]?).getD 4095) ++ [id, ((b.drop (80 * i)).take 80).length] ++ (b.drop (80 * i)).take 80
def recT (id : Int) (b : List Int) (l : List Int) (i : Nat) : List Int := closed (recB id b l i)
/-- the first of some numbers whose record lies on a track -/
def whoOf (R : Rcs) (k : Int) : List Int → Option (List Int)
  | [] => none
  | i :: r => if k ∈ R.trks i then some (recT i (R.bytes i) (R.trks i) ((R.trks i).idxOf k)) else whoOf R k r
/-- all tracks of the records -/
def laidT (R : Rcs) (k : Int) : Option (List Int) := if k = 0 then some (listT R) else whoOf R k ids40
/-- records that may be -/
structure RcsOk (R : Rcs) (H : Nat) : Prop where
  id : ∀ i x, R i = some x → 1 ≤ i ∧ i ≤ 40
  b : ∀ i x, R i = some x → x.1.length ≤ 60000 ∧ IsBytes x.1
  len : ∀ i x, R i = some x → x.2.length = takes x.1.length
  tr : ∀ i x, R i = some x → ∀ k ∈ x.2, 0 < k ∧ k < H
  nd : ∀ i x, R i = some x → x.2.Nodup
  dj : ∀ i j x y, R i = some x → R j = some y → i ≠ j → ∀ k ∈ x.2, k ∉ y.2
/-- how many tracks are used; which are -/
def usedOf (R : Rcs) : List Int → Nat
  | [] => 1
  | i :: r => usedOf R r + (R.trks i).length
def Rcs.used (R : Rcs) : Nat := usedOf R ids40
def isUsed (R : Rcs) (k : Int) : Bool := decide (k = 0) || ids40.any fun i => (R.trks i).contains k
/-- the lowest free ones -/
def freeFrom (R : Rcs) : Nat → Nat → List Int
  | 0, _ => []
  | f + 1, k => if isUsed R (k : Int) = true then freeFrom R f (k + 1) else (k : Int) :: freeFrom R f (k + 1)
def Rcs.freeL (R : Rcs) (n : Nat) : List Int := (freeFrom R 4200 0).take n

/-- two bytes as a number -/
def n2 (z : List Int) (i : Nat) : Int := zb z i * 256 + zb z (i + 1)
def isTrk (z : List Int) : Bool := decide (closed (z.take 84) = z)
/-- the part of a record on a track -/
def partT (z : List Int) : List Int := (z.drop 4).take (zb z 3).toNat
/-- a chain of tracks: from one on, those that were not seen -/
def chainV (T : Int → List Int) (H : Nat) (id : Int) : Nat → Int → List Int → Option (List Int × List Int)
  | 0, _, _ => none
  | f + 1, k, seen =>
    if (H : Int) ≤ k ∨ k ∈ seen then none
    else if isTrk (T k) = false ∨ zb (T k) 2 ≠ id ∨ 80 < zb (T k) 3 then none
    else if n2 (T k) 0 = 4095 then some (partT (T k), [k])
    else (chainV T H id f (n2 (T k) 0) (k :: seen)).map fun x => (partT (T k) ++ x.1, k :: x.2)
/-- is that a record that may be? -/
def mayRec (x : List Int × List Int) : Bool := decide (x.1.length ≤ 60000) && decide (x.2.length = takes x.1.length)
def Rcs.put (R : Rcs) (i : Int) (x : List Int × List Int) : Rcs := fun k => if k = i then some x else R k
def Rcs.drop (R : Rcs) (i : Int) : Rcs := fun k => if k = i then none else R k
/-- the records of some numbers -/
def loadFrom (T : Int → List Int) (H : Nat) : List Int → List Int → Rcs → Option Rcs
  | [], _, R => some R
  | i :: r, seen, R =>
    if n2 (T 0) (2 * (i - 1)).toNat = 0 then loadFrom T H r seen R
    else match chainV T H i (H + 1) (n2 (T 0) (2 * (i - 1)).toNat) seen with
      | none => none
      | some x => if mayRec x = true then loadFrom T H r (x.2.reverse ++ seen) (R.put i x) else none
/-- do all tracks of the records stand so? -/
def agrees (T : Int → List Int) (H : Nat) (R : Rcs) : Bool := (List.range H).all fun (k : Nat) => match laidT R (k : Int) with
  | none => true
  | some z => decide (T (k : Int) = z)
/-- the records that stand on the home tracks -/
def loadV (T : Int → List Int) (H : Nat) : Option Rcs :=
  if isTrk (T 0) = true then
    match loadFrom T H ids40 [0] noRcs with
    | none => none
    | some R => if agrees T H R = true then some R else none
  else none

end Go.Proofs.YtleoelhhndeheaaGreat

/- package vault: what was laid out is loaded again -/
open Go Go.RowKit
namespace Go.Proofs.YtleoelhhndeheaaGreat

theorem nodup_lt_int (n : Nat) (l : List Int) (hd : l.Nodup) (h : ∀ x ∈ l, 0 ≤ x ∧ x < n) : l.length ≤ n := by
  have := nodup_lt n (l.map Int.toNat) (by
    refine List.pairwise_map.2 (hd.imp_of_mem fun {a b} ha hb hne e => hne ?_)
    have h1 := h a ha
    have h2 := h b hb
    omega) (fun x hx => by
    obtain ⟨y, hy, rfl⟩ := List.mem_map.1 hx
    have := h y hy
    omega)
  simpa using this
theorem mem_ids40 {i : Int} : i ∈ ids40 ↔ 1 ≤ i ∧ i ≤ 40 := by
  unfold ids40
  rw [List.mem_map]
  constructor
  · rintro ⟨k, hk, rfl⟩
    have := List.mem_range.1 hk
    omega
  · rintro ⟨h1, h2⟩
    exact ⟨(i - 1).toNat, List.mem_range.2 (by omega), by omega⟩
theorem ids40_nodup : ids40.Nodup := by decide
theorem zb_l {x y : List Int} {i : Nat} (h : i < x.length) : zb (x ++ y) i = zb x i := by
  unfold zb; rw [List.getElem?_append_left h]
theorem zb_r {x y : List Int} {i : Nat} (h : x.length ≤ i) : zb (x ++ y) i = zb y (i - x.length) := by
  unfold zb; rw [List.getElem?_append_right h]
theorem closed_take {x : List Int} (h : x.length ≤ 84) : (closed x).take 84 = padded x := by
  have := padded_length h
  unfold closed
  rw [List.append_assoc, List.take_append_of_le_length (by omega), List.take_of_length_le (by omega)]
theorem padded_twice {x : List Int} (h : x.length ≤ 84) : padded (padded x) = padded x := by
  have := padded_length h
  show padded x ++ List.replicate (84 - (padded x).length) 0 = padded x
  rw [this]; simp
theorem isTrk_closed {x : List Int} (h : x.length ≤ 84) : isTrk (closed x) = true := by
  unfold isTrk
  refine decide_eq_true ?_
  rw [closed_take h]
  unfold closed
  rw [padded_twice h]
theorem zb_closed {x : List Int} {i : Nat} (h : i < x.length) : zb (closed x) i = zb x i := by
  unfold closed padded
  rw [zb_l (by simp; omega), zb_l (by simp; omega), zb_l h]

/-- the list's numbers -/
theorem flat2_zb (f : Int → List Int) (hf : ∀ i, (f i).length = 2) : ∀ (l : List Int) (j : Nat) (i : Int), l[j]? = some i → ∀ c, c < 2 → zb (l.flatMap f) (2 * j + c) = zb (f i) c
  | [], j, i, h, _, _ => by simp at h
  | x :: r, 0, i, h, c, hc => by
    obtain rfl : x = i := by simpa using h
    rw [List.flatMap_cons, zb_l (by rw [hf]; omega)]
    simp
  | x :: r, j + 1, i, h, c, hc => by
    rw [List.flatMap_cons, zb_r (by rw [hf]; omega), hf, show 2 * (j + 1) + c - 2 = 2 * j + c by omega]
    exact flat2_zb f hf r j i (by simpa using h) c hc
theorem flat2_length (f : Int → List Int) (hf : ∀ i, (f i).length = 2) : ∀ l : List Int, (l.flatMap f).length = 2 * l.length
  | [] => rfl
  | x :: r => by rw [List.flatMap_cons, List.length_append, hf, flat2_length f hf r, List.length_cons]; omega
theorem listB_length (R : Rcs) : (listB R).length = 80 := by
  unfold listB
  rw [flat2_length _ (fun _ => rfl)]; rfl
theorem lay2_n2 {n : Int} (h : 0 ≤ n ∧ n < 65536) : zb (lay2 n) 0 * 256 + zb (lay2 n) 1 = n := by
  unfold lay2 zb
  simp
  omega
theorem ids40_get {i : Int} (h : 1 ≤ i ∧ i ≤ 40) : ids40[(i - 1).toNat]? = some i := by
  unfold ids40
  rw [List.getElem?_map, List.getElem?_range (by omega)]
  simp; omega
theorem listT_n2 {R : Rcs} {H : Nat} (ok : RcsOk R H) (hH : H ≤ 4096) {i : Int} (h : 1 ≤ i ∧ i ≤ 40) : n2 (listT R) (2 * (i - 1)).toNat = (R.trks i).headD 0 := by
  have hl := listB_length R
  have e : (2 * (i - 1)).toNat = 2 * (i - 1).toNat := by omega
  unfold n2 listT
  rw [zb_closed (by rw [hl]; omega), zb_closed (by rw [hl]; omega), e]
  unfold listB
  rw [show 2 * (i - 1).toNat = 2 * (i - 1).toNat + 0 from rfl, flat2_zb _ (fun _ => rfl) ids40 _ i (ids40_get h) 0 (by omega), Nat.add_zero, flat2_zb _ (fun _ => rfl) ids40 _ i (ids40_get h) 1 (by omega)]
  refine lay2_n2 ?_
  unfold Rcs.trks
  cases hR : R i with
  | none => simp
  | some x =>
    cases hx : x.2 with
    | nil => simp [hx]
    | cons k r =>
      have := ok.tr i x hR k (by rw [hx]; simp)
      simp [hx]; omega

theorem whoOf_at {R : Rcs} {H : Nat} (ok : RcsOk R H) {k i : Int} {x : List Int × List Int} (hR : R i = some x) (hk : k ∈ x.2) : ∀ l : List Int, i ∈ l → whoOf R k l = some (recT i x.1 x.2 (x.2.idxOf k))
  | [], h => by cases h
  | j :: r, h => by
    unfold whoOf
    by_cases e : j = i
    · subst e
      have e1 : R.trks j = x.2 := by unfold Rcs.trks; rw [hR]; rfl
      have e2 : R.bytes j = x.1 := by unfold Rcs.bytes; rw [hR]; rfl
      rw [e1, e2, if_pos hk]
    · rw [if_neg, whoOf_at ok hR hk r (by rcases List.mem_cons.1 h with h | h
                                          · exact absurd h.symm e
                                          · exact h)]
      intro hm
      unfold Rcs.trks at hm
      cases hj : R j with
      | none => rw [hj] at hm; simp at hm
      | some y =>
        rw [hj] at hm
        exact ok.dj j i y x hj hR e k (by simpa using hm) hk
theorem whoOf_none {R : Rcs} {k : Int} : ∀ l : List Int, (∀ i ∈ l, k ∉ R.trks i) → whoOf R k l = none
  | [], _ => rfl
  | j :: r, h => by
    unfold whoOf
    rw [if_neg (h j (by simp)), whoOf_none r (fun i hi => h i (by simp [hi]))]
theorem laidT_at {R : Rcs} {H : Nat} (ok : RcsOk R H) {i : Int} {x : List Int × List Int} (hR : R i = some x) {j : Nat} (hj : j < x.2.length) : laidT R x.2[j] = some (recT i x.1 x.2 j) := by
  have hm : x.2[j] ∈ x.2 := List.getElem_mem hj
  have h0 := ok.tr i x hR _ hm
  unfold laidT
  rw [if_neg (by omega), whoOf_at ok hR hm ids40 (mem_ids40.2 (ok.id i x hR)), (ok.nd i x hR).idxOf_getElem]
theorem laidT_some {R : Rcs} {H : Nat} (ok : RcsOk R H) {k : Int} {z : List Int} (h : laidT R k = some z) : (k = 0 ∧ z = listT R) ∨ ∃ i x, R i = some x ∧ ∃ j, ∃ hj : j < x.2.length, k = x.2[j] ∧ z = recT i x.1 x.2 j := by
  unfold laidT at h
  by_cases h0 : k = 0
  · rw [if_pos h0] at h
    exact .inl ⟨h0, by simpa using h.symm⟩
  · rw [if_neg h0] at h
    refine .inr ?_
    have key : ∀ l : List Int, whoOf R k l = some z → ∃ i, k ∈ R.trks i := by
      intro l
      induction l with
      | nil => intro h; cases h
      | cons j r ih =>
        intro h
        unfold whoOf at h
        by_cases e : k ∈ R.trks j
        · exact ⟨j, e⟩
        · rw [if_neg e] at h; exact ih h
    obtain ⟨i, hi⟩ := key _ h
    cases hR : R i with
    | none => unfold Rcs.trks at hi; rw [hR] at hi; simp at hi
    | some x =>
      have hm : k ∈ x.2 := by unfold Rcs.trks at hi; rw [hR] at hi; simpa using hi
      have hj := List.idxOf_lt_length_of_mem hm
      rw [whoOf_at ok hR hm ids40 (mem_ids40.2 (ok.id i x hR))] at h
      exact ⟨i, x, hR, x.2.idxOf k, hj, by simp, by simpa using h.symm⟩
theorem laidT_none {R : Rcs} {k : Int} (h0 : k ≠ 0) (h : ∀ i, k ∉ R.trks i) : laidT R k = none := by
  unfold laidT
  rw [if_neg h0, whoOf_none _ (fun i _ => h i)]

/-! a record's track reads as its part -/
theorem partLen (b : List Int) (i : Nat) : ((b.drop (80 * i)).take 80).length ≤ 80 := by simp; omega
theorem recB_length (id : Int) (b l : List Int) (i : Nat) : (recB id b l i).length = 4 + ((b.drop (80 * i)).take 80).length := by
  unfold recB lay2; simp; omega
theorem recT_rd {id : Int} {b l : List Int} {i : Nat} (hid : 1 ≤ id ∧ id ≤ 40) (hl : ∀ k ∈ l, 0 < k ∧ k < 4096) :
    isTrk (recT id b l i) = true ∧ zb (recT id b l i) 2 = id ∧ zb (recT id b l i) 3 = ((b.drop (80 * i)).take 80).length ∧ n2 (recT id b l i) 0 = (l[i + 1]?).getD 4095 ∧ partT (recT id b l i) = (b.drop (80 * i)).take 80 := by
  have hp := partLen b i
  have hL := recB_length id b l i
  obtain ⟨p, hpp⟩ : ∃ p, (b.drop (80 * i)).take 80 = p := ⟨_, rfl⟩
  have e0 : recB id b l i = lay2 ((l[i + 1]?).getD 4095) ++ [id, (p.length : Int)] ++ p := by unfold recB; rw [hpp]
  rw [hpp] at hp hL ⊢
  have z2 : zb (recT id b l i) 2 = id := by
    unfold recT; rw [zb_closed (by omega), e0]; unfold lay2 zb; rfl
  have z3 : zb (recT id b l i) 3 = p.length := by
    unfold recT; rw [zb_closed (by omega), e0]; unfold lay2 zb; rfl
  refine ⟨isTrk_closed (by omega), z2, z3, ?_, ?_⟩
  · unfold n2 recT
    rw [zb_closed (by omega), zb_closed (by omega), e0, List.append_assoc, zb_l (by simp [lay2]), zb_l (by simp [lay2])]
    refine lay2_n2 ?_
    cases h : l[i + 1]? with
    | none => simp
    | some k => have := hl k (List.mem_of_getElem? h); simp; omega
  · unfold partT
    rw [z3]
    unfold recT closed padded
    rw [e0]
    simp [lay2]
theorem chain_laid {R : Rcs} {H : Nat} (ok : RcsOk R H) (hH : H ≤ 4095) {T : Int → List Int} (hT : ∀ k z, laidT R k = some z → T k = z) {id : Int} {x : List Int × List Int} (hR : R id = some x) :
    ∀ (m i f : Nat) (seen : List Int), x.2.length = i + m + 1 → m < f → (∀ k ∈ x.2.drop i, k ∉ seen) → ∃ k, x.2[i]? = some k ∧ chainV T H id f k seen = some (x.1.drop (80 * i), x.2.drop i) := by
  have hid := ok.id id x hR
  have htr := ok.tr id x hR
  have hlen := ok.len id x hR
  intro m
  induction m with
  | zero =>
    intro i f seen hl hf hs
    obtain ⟨f, rfl⟩ : ∃ g, f = g + 1 := ⟨f - 1, by omega⟩
    have hi : i < x.2.length := by omega
    refine ⟨x.2[i], List.getElem?_eq_getElem hi, ?_⟩
    have hk := htr _ (List.getElem_mem hi)
    have e := hT _ _ (laidT_at ok hR hi)
    obtain ⟨r1, r2, r3, r4, r5⟩ := recT_rd (b := x.1) (i := i) hid (fun k hk => by have := htr k hk; omega)
    have hp := partLen x.1 i
    have h5 : x.2[i + 1]? = none := List.getElem?_eq_none (by omega)
    rw [h5] at r4
    unfold chainV
    rw [if_neg, e, if_neg, r4, if_pos (show Option.getD none (4095 : Int) = 4095 from rfl), r5]
    · have h6 : x.2.drop i = [x.2[i]] := by
        rw [List.drop_eq_getElem_cons hi, List.drop_eq_nil_of_le (by omega)]
      have h7 : x.1.length ≤ 80 * i + 80 := by rw [hl] at hlen; unfold takes at hlen; omega
      rw [h6, List.take_of_length_le (by simp; omega)]
    · rw [r1, r2, r3]; simp; omega
    · rintro (h | h)
      · omega
      · exact hs _ (by rw [List.drop_eq_getElem_cons hi]; exact List.mem_cons_self) h
  | succ m ih =>
    intro i f seen hl hf hs
    obtain ⟨f, rfl⟩ : ∃ g, f = g + 1 := ⟨f - 1, by omega⟩
    have hi : i < x.2.length := by omega
    have hi1 : i + 1 < x.2.length := by omega
    refine ⟨x.2[i], List.getElem?_eq_getElem hi, ?_⟩
    have hk := htr _ (List.getElem_mem hi)
    have hk1 := htr _ (List.getElem_mem hi1)
    have e := hT _ _ (laidT_at ok hR hi)
    obtain ⟨r1, r2, r3, r4, r5⟩ := recT_rd (b := x.1) (i := i) hid (fun k hk => by have := htr k hk; omega)
    have hp := partLen x.1 i
    have hnd := ok.nd id x hR
    have hdr : x.2.drop i = x.2[i] :: x.2.drop (i + 1) := List.drop_eq_getElem_cons hi
    obtain ⟨k, hk2, hc⟩ := ih (i + 1) f (x.2[i] :: seen) (by omega) (by omega) (fun k hk hm => by
      rcases List.mem_cons.1 hm with rfl | hm
      · have h8 : (x.2.drop i).Nodup := hnd.sublist (List.drop_sublist _ _)
        rw [hdr] at h8
        exact (List.nodup_cons.1 h8).1 hk
      · exact hs k (by rw [hdr]; exact List.mem_cons_of_mem _ hk) hm)
    rw [hk2] at r4
    have hkk : x.2[i + 1] = k := by rw [List.getElem?_eq_getElem hi1] at hk2; simpa using hk2
    have r4 : n2 (recT id x.1 x.2 i) 0 = k := r4
    unfold chainV
    rw [if_neg, e, if_neg, r4, if_neg (by omega), hc, r5]
    · show some _ = some _
      rw [hdr]
      have h9 : x.1.drop (80 * (i + 1)) = (x.1.drop (80 * i)).drop 80 := by rw [List.drop_drop]; congr 1
      simp only [h9, List.take_append_drop]
    · rw [r1, r2, r3]; simp; omega
    · rintro (h | h)
      · omega
      · exact hs _ (by rw [hdr]; exact List.mem_cons_self) h

/-- the records of some numbers alone -/
def only (R : Rcs) (l : List Int) : Rcs := fun k => if k ∈ l then R k else none
theorem load_laid {R : Rcs} {H : Nat} (ok : RcsOk R H) (hH : H ≤ 4095) {T : Int → List Int} (hT : ∀ k z, laidT R k = some z → T k = z) :
    ∀ (r l seen : List Int), ids40 = l ++ r → (∀ i ∈ r, ∀ k ∈ R.trks i, k ∉ seen) → loadFrom T H r seen (only R l) = some R
  | [], l, seen, he, _ => by
    have h : only R l = R := by
      funext k
      unfold only
      split
      · rfl
      · rename_i hk
        cases hR : R k with
        | none => rfl
        | some x =>
          have := mem_ids40.2 (ok.id k x hR)
          rw [he, List.append_nil] at this
          exact absurd this hk
    unfold loadFrom
    rw [h]
  | i :: r, l, seen, he, hs => by
    have hi : i ∈ ids40 := by rw [he]; simp
    have hi2 := mem_ids40.1 hi
    have hnl : i ∉ l := by
      have := ids40_nodup
      rw [he] at this
      intro hm
      exact (List.nodup_append.1 this).2.2 i hm i (by simp) rfl
    have hT0 := hT 0 (listT R) (by unfold laidT; rw [if_pos rfl])
    have e1 := listT_n2 ok (by omega) hi2
    unfold loadFrom
    rw [hT0, e1]
    cases hR : R i with
    | none =>
      have e2 : (R.trks i).headD 0 = 0 := by unfold Rcs.trks; rw [hR]; rfl
      rw [if_pos e2]
      have e3 : only R l = only R (l ++ [i]) := by
        funext k
        unfold only
        by_cases hk : k = i
        · subst hk; rw [hR]; simp
        · simp [hk]
      rw [e3]
      exact load_laid ok hH hT r (l ++ [i]) seen (by rw [he]; simp) (fun j hj => hs j (by simp [hj]))
    | some x =>
      have hlen := ok.len i x hR
      have h1 : 0 < x.2.length := by unfold takes at hlen; omega
      have et : R.trks i = x.2 := by unfold Rcs.trks; rw [hR]; rfl
      obtain ⟨m, hm⟩ : ∃ m, x.2.length = 0 + m + 1 := ⟨x.2.length - 1, by omega⟩
      have hnd := ok.nd i x hR
      have htr := ok.tr i x hR
      have hmH : x.2.length ≤ H := by
        have := nodup_lt_int H x.2 hnd (fun k hk => by have := htr k hk; omega)
        exact this
      obtain ⟨k, hk, hc⟩ := chain_laid ok hH hT hR m 0 (H + 1) seen hm (by omega) (fun k hk => hs i (by simp) k (by rw [et]; simpa using hk))
      have ek : (R.trks i).headD 0 = k := by
        rw [et]
        cases hx : x.2 with
        | nil => rw [hx] at h1; simp at h1
        | cons a q => rw [hx] at hk; simpa using hk
      have hk0 := htr k (List.mem_of_getElem? hk)
      rw [ek, if_neg (by omega), hc]
      simp only [Nat.mul_zero, List.drop_zero]
      rw [if_pos (by unfold mayRec; simp [hlen, (ok.b i x hR).1])]
      have e3 : (only R l).put i x = only R (l ++ [i]) := by
        funext k
        unfold only Rcs.put
        by_cases hk : k = i
        · subst hk; rw [hR]; simp
        · simp [hk]
      show loadFrom T H r _ ((only R l).put i x) = _
      rw [e3]
      refine load_laid ok hH hT r (l ++ [i]) _ (by rw [he]; simp) (fun j hj q hq hm => ?_)
      rcases List.mem_append.1 hm with hm | hm
      · have hm : q ∈ x.2 := by simpa using hm
        have hji : j ≠ i := by
          have := ids40_nodup
          rw [he] at this
          have h5 := (List.nodup_cons.1 (List.nodup_append.1 this).2.1).1
          rintro rfl
          exact h5 hj
        unfold Rcs.trks at hq
        cases hj : R j with
        | none => rw [hj] at hq; simp at hq
        | some y =>
          rw [hj] at hq
          exact ok.dj j i y x hj hR hji q (by simpa using hq) hm
      · exact hs j (by simp [hj]) q hq hm

theorem loadV_laid {R : Rcs} {H : Nat} (ok : RcsOk R H) (hH : H ≤ 4095) {T : Int → List Int} (hT : ∀ k z, laidT R k = some z → T k = z) : loadV T H = some R := by
  have hT0 := hT 0 (listT R) (by unfold laidT; rw [if_pos rfl])
  have hl := load_laid ok hH hT ids40 [] [0] rfl (fun i _ k hk hm => by
    obtain rfl : k = 0 := by simpa using hm
    unfold Rcs.trks at hk
    cases hR : R i with
    | none => rw [hR] at hk; simp at hk
    | some x =>
      rw [hR] at hk
      have := ok.tr i x hR 0 (by simpa using hk)
      omega)
  have h0 : only R [] = noRcs := by funext k; unfold only noRcs; simp
  rw [h0] at hl
  have ha : agrees T H R = true := by
    unfold agrees
    rw [List.all_eq_true]
    intro k _
    cases h : laidT R (k : Int) with
    | none => rfl
    | some z => simp only; exact decide_eq_true (hT _ _ h)
  unfold loadV
  rw [hT0, if_pos (show isTrk (listT R) = true from isTrk_closed (by rw [listB_length]; omega)), hl]
  simp only
  rw [if_pos ha]

end Go.Proofs.YtleoelhhndeheaaGreat

/- package vault: used tracks, free tracks; a record is put -/
open Go Go.RowKit
namespace Go.Proofs.YtleoelhhndeheaaGreat

/-- all used tracks -/
def usedL (R : Rcs) : List Int := 0 :: ids40.flatMap R.trks
theorem usedOf_eq (R : Rcs) : ∀ l : List Int, usedOf R l = 1 + (l.flatMap R.trks).length
  | [] => rfl
  | i :: r => by unfold usedOf; rw [usedOf_eq R r, List.flatMap_cons, List.length_append]; omega
theorem used_length (R : Rcs) : R.used = (usedL R).length := by
  unfold Rcs.used usedL
  rw [usedOf_eq, List.length_cons]; omega
theorem isUsed_iff (R : Rcs) (k : Int) : isUsed R k = true ↔ k ∈ usedL R := by
  unfold isUsed usedL
  rw [Bool.or_eq_true, decide_eq_true_eq, List.any_eq_true, List.mem_cons, List.mem_flatMap]
  simp
theorem trks_of {R : Rcs} {i : Int} {x : List Int × List Int} (h : R i = some x) : R.trks i = x.2 := by unfold Rcs.trks; rw [h]; rfl
theorem bytes_of {R : Rcs} {i : Int} {x : List Int × List Int} (h : R i = some x) : R.bytes i = x.1 := by unfold Rcs.bytes; rw [h]; rfl
theorem trks_none {R : Rcs} {i : Int} (h : R i = none) : R.trks i = [] := by unfold Rcs.trks; rw [h]; rfl
theorem trks_nd {R : Rcs} {H : Nat} (ok : RcsOk R H) (i : Int) : (R.trks i).Nodup := by
  cases h : R i with
  | none => rw [trks_none h]; exact List.nodup_nil
  | some x => rw [trks_of h]; exact ok.nd i x h
theorem trks_tr {R : Rcs} {H : Nat} (ok : RcsOk R H) {i k : Int} (hk : k ∈ R.trks i) : 0 < k ∧ k < H := by
  cases h : R i with
  | none => rw [trks_none h] at hk; cases hk
  | some x => rw [trks_of h] at hk; exact ok.tr i x h k hk
theorem trks_dj {R : Rcs} {H : Nat} (ok : RcsOk R H) {i j k : Int} (hij : i ≠ j) (hk : k ∈ R.trks i) : k ∉ R.trks j := by
  cases h : R i with
  | none => rw [trks_none h] at hk; cases hk
  | some x =>
    rw [trks_of h] at hk
    cases h2 : R j with
    | none => rw [trks_none h2]; exact List.not_mem_nil
    | some y => rw [trks_of h2]; exact ok.dj i j x y h h2 hij k hk
theorem trks_id {R : Rcs} {H : Nat} (ok : RcsOk R H) {i k : Int} (hk : k ∈ R.trks i) : i ∈ ids40 := by
  cases h : R i with
  | none => rw [trks_none h] at hk; cases hk
  | some x => exact mem_ids40.2 (ok.id i x h)
theorem flat_nd {R : Rcs} {H : Nat} (ok : RcsOk R H) : ∀ l : List Int, l.Nodup → (l.flatMap R.trks).Nodup
  | [], _ => List.nodup_nil
  | i :: r, h => by
    have h2 := List.nodup_cons.1 h
    rw [List.flatMap_cons, List.nodup_append]
    refine ⟨trks_nd ok i, flat_nd ok r h2.2, fun a ha b hb e => ?_⟩
    subst e
    obtain ⟨j, hj, hb⟩ := List.mem_flatMap.1 hb
    exact trks_dj ok (fun e => by subst e; exact h2.1 hj) ha hb
theorem usedL_nd {R : Rcs} {H : Nat} (ok : RcsOk R H) : (usedL R).Nodup := by
  unfold usedL
  refine List.nodup_cons.2 ⟨fun h => ?_, flat_nd ok _ ids40_nodup⟩
  obtain ⟨j, _, h⟩ := List.mem_flatMap.1 h
  have := trks_tr ok h
  omega
theorem usedL_lt {R : Rcs} {H : Nat} (ok : RcsOk R H) (h0 : 0 < H) {k : Int} (h : k ∈ usedL R) : 0 ≤ k ∧ k < H := by
  unfold usedL at h
  rcases List.mem_cons.1 h with h | h
  · omega
  · obtain ⟨j, _, h⟩ := List.mem_flatMap.1 h
    have := trks_tr ok h
    omega
theorem used_le {R : Rcs} {H : Nat} (ok : RcsOk R H) (h0 : 0 < H) : R.used ≤ H := by
  rw [used_length]
  exact nodup_lt_int H _ (usedL_nd ok) (fun x hx => usedL_lt ok h0 hx)

/-! the lowest free ones -/
theorem freeFrom_mem (R : Rcs) : ∀ (f k : Nat) (x : Int), x ∈ freeFrom R f k ↔ ((k : Int) ≤ x ∧ x < k + f) ∧ isUsed R x = false
  | 0, k, x => by simp [freeFrom]; omega
  | f + 1, k, x => by
    unfold freeFrom
    have ih := freeFrom_mem R f (k + 1) x
    by_cases h : isUsed R (k : Int) = true
    · rw [if_pos h, ih]
      constructor
      · rintro ⟨h1, h2⟩; exact ⟨by omega, h2⟩
      · rintro ⟨h1, h2⟩
        have : x ≠ k := fun e => by rw [e, h] at h2; cases h2
        exact ⟨by omega, h2⟩
    · rw [if_neg h, List.mem_cons, ih]
      constructor
      · rintro (rfl | ⟨h1, h2⟩)
        · exact ⟨by omega, by simpa using h⟩
        · exact ⟨by omega, h2⟩
      · rintro ⟨h1, h2⟩
        by_cases e : x = k
        · exact .inl e
        · exact .inr ⟨by omega, h2⟩
theorem freeFrom_sorted (R : Rcs) : ∀ (f k : Nat), (freeFrom R f k).Pairwise (fun a b => a < b)
  | 0, k => List.Pairwise.nil
  | f + 1, k => by
    unfold freeFrom
    split
    · exact freeFrom_sorted R f (k + 1)
    · refine List.pairwise_cons.2 ⟨fun x hx => ?_, freeFrom_sorted R f (k + 1)⟩
      have := (freeFrom_mem R f (k + 1) x).1 hx
      omega
theorem freeFrom_app (R : Rcs) : ∀ (f g k : Nat), freeFrom R (f + g) k = freeFrom R f k ++ freeFrom R g (k + f)
  | 0, g, k => by simp [freeFrom]
  | f + 1, g, k => by
    rw [show f + 1 + g = (f + g) + 1 by omega]
    show (if isUsed R (k : Int) = true then freeFrom R (f + g) (k + 1) else (k : Int) :: freeFrom R (f + g) (k + 1)) = (if isUsed R (k : Int) = true then freeFrom R f (k + 1) else (k : Int) :: freeFrom R f (k + 1)) ++ freeFrom R g (k + (f + 1))
    rw [freeFrom_app R f g (k + 1), show k + 1 + f = k + (f + 1) by omega]
    split <;> simp
theorem nodup_split (p : Int → Bool) : ∀ l : List Int, l.length = (l.filter p).length + (l.filter fun x => !p x).length
  | [] => rfl
  | x :: r => by
    have := nodup_split p r
    simp only [List.filter_cons, List.length_cons]
    cases p x <;> simp <;> omega
theorem range_int (H : Nat) (x : Int) : x ∈ (List.range H).map (fun (k : Nat) => (k : Int)) ↔ 0 ≤ x ∧ x < H := by
  rw [List.mem_map]
  constructor
  · rintro ⟨k, hk, rfl⟩; have := List.mem_range.1 hk; omega
  · rintro ⟨h1, h2⟩; exact ⟨x.toNat, List.mem_range.2 (by omega), by omega⟩
theorem range_int_nd (H : Nat) : ((List.range H).map (fun (k : Nat) => (k : Int))).Nodup := by
  refine List.pairwise_map.2 (List.nodup_range.imp (fun {a b} h e => h (by omega)))
theorem free_length {R : Rcs} {H : Nat} (ok : RcsOk R H) (h0 : 0 < H) : (freeFrom R H 0).length = H - R.used := by
  have e := nodup_split (isUsed R) ((List.range H).map (fun (k : Nat) => (k : Int)))
  have p1 : (((List.range H).map (fun (k : Nat) => (k : Int))).filter (isUsed R)).Perm (usedL R) := by
    refine (List.perm_ext_iff_of_nodup ((range_int_nd H).filter _) (usedL_nd ok)).2 fun x => ?_
    rw [List.mem_filter, range_int, isUsed_iff]
    exact ⟨fun h => h.2, fun h => ⟨usedL_lt ok h0 h, h⟩⟩
  have p2 : (((List.range H).map (fun (k : Nat) => (k : Int))).filter fun x => !isUsed R x).Perm (freeFrom R H 0) := by
    refine (List.perm_ext_iff_of_nodup ((range_int_nd H).filter _) ((freeFrom_sorted R H 0).imp (fun {a b} h => by omega))).2 fun x => ?_
    rw [List.mem_filter, range_int, freeFrom_mem]
    simp
  rw [p1.length_eq, p2.length_eq, ← used_length] at e
  have := used_le ok h0
  simp at e
  omega
theorem freeL_spec {R : Rcs} {H : Nat} (ok : RcsOk R H) (h0 : 0 < H) (hH : H ≤ 4096) {n : Nat} (hn : n + R.used ≤ H) :
    (R.freeL n).length = n ∧ (R.freeL n).Nodup ∧ ∀ k ∈ R.freeL n, (0 < k ∧ k < H) ∧ ∀ i, k ∉ R.trks i := by
  have e : R.freeL n = (freeFrom R H 0).take n := by
    unfold Rcs.freeL
    rw [show 4200 = H + (4200 - H) by omega, freeFrom_app, List.take_append_of_le_length]
    rw [free_length ok h0]; omega
  have hl := free_length ok h0
  rw [e]
  refine ⟨by rw [List.length_take]; omega, ((freeFrom_sorted R H 0).imp (fun {a b} h => by omega) : (freeFrom R H 0).Nodup).sublist (List.take_sublist _ _), fun k hk => ?_⟩
  have hm := (freeFrom_mem R H 0 k).1 (List.mem_of_mem_take hk)
  have hu : k ∉ usedL R := fun h => by
    have := (isUsed_iff R k).2 h
    rw [this] at hm
    exact absurd hm.2 (by simp)
  unfold usedL at hu
  rw [List.mem_cons, not_or] at hu
  refine ⟨by omega, fun i hi => hu.2 (List.mem_flatMap.2 ⟨i, trks_id ok hi, hi⟩)⟩

/-- a record's tracks behind a Put of so many bytes -/
def Rcs.nextT (R : Rcs) (id : Int) (n : Nat) : List Int :=
  if (R.trks id).length < takes n then R.trks id ++ R.freeL (takes n - (R.trks id).length) else (R.trks id).take (takes n)
theorem nextT_spec {R : Rcs} {H : Nat} (ok : RcsOk R H) (h0 : 0 < H) (hH : H ≤ 4096) {id : Int} {n : Nat} (hn : takes n + R.used ≤ H + (R.trks id).length) :
    (R.nextT id n).length = takes n ∧ (R.nextT id n).Nodup ∧ ∀ k ∈ R.nextT id n, (0 < k ∧ k < H) ∧ ∀ i, i ≠ id → k ∉ R.trks i := by
  unfold Rcs.nextT
  split
  · rename_i h
    obtain ⟨f1, f2, f3⟩ := freeL_spec ok h0 hH (n := takes n - (R.trks id).length) (by omega)
    refine ⟨by rw [List.length_append, f1]; omega, List.nodup_append.2 ⟨trks_nd ok id, f2, fun a ha b hb e => ?_⟩, fun k hk => ?_⟩
    · subst e; exact (f3 a hb).2 id ha
    · rcases List.mem_append.1 hk with hk | hk
      · exact ⟨trks_tr ok hk, fun i hi => trks_dj ok (Ne.symm hi) hk⟩
      · exact ⟨(f3 k hk).1, fun i _ => (f3 k hk).2 i⟩
  · refine ⟨by rw [List.length_take]; omega, (trks_nd ok id).sublist (List.take_sublist _ _), fun k hk => ?_⟩
    have hk := List.mem_of_mem_take hk
    exact ⟨trks_tr ok hk, fun i hi => trks_dj ok (Ne.symm hi) hk⟩
theorem RcsOk.put {R : Rcs} {H : Nat} (ok : RcsOk R H) {id : Int} {b l : List Int} (hid : 1 ≤ id ∧ id ≤ 40) (hb : b.length ≤ 60000) (hy : IsBytes b) (hl : l.length = takes b.length) (hd : l.Nodup) (hk : ∀ k ∈ l, (0 < k ∧ k < (H : Int)) ∧ ∀ i, i ≠ id → k ∉ R.trks i) : RcsOk (R.put id (b, l)) H := by
  have key : ∀ i x, R.put id (b, l) i = some x → (i = id ∧ x = (b, l)) ∨ (i ≠ id ∧ R i = some x) := by
    intro i x h
    unfold Rcs.put at h
    by_cases e : i = id
    · rw [if_pos e] at h; exact .inl ⟨e, by simpa using h.symm⟩
    · rw [if_neg e] at h; exact .inr ⟨e, h⟩
  refine ⟨fun i x h => ?_, fun i x h => ?_, fun i x h => ?_, fun i x h => ?_, fun i x h => ?_, fun i j x y hi hj hij => ?_⟩
  · rcases key i x h with ⟨rfl, rfl⟩ | ⟨_, h⟩
    · exact hid
    · exact ok.id i x h
  · rcases key i x h with ⟨rfl, rfl⟩ | ⟨_, h⟩
    · exact ⟨hb, hy⟩
    · exact ok.b i x h
  · rcases key i x h with ⟨rfl, rfl⟩ | ⟨_, h⟩
    · exact hl
    · exact ok.len i x h
  · rcases key i x h with ⟨rfl, rfl⟩ | ⟨_, h⟩
    · exact fun k h => (hk k h).1
    · exact ok.tr i x h
  · rcases key i x h with ⟨rfl, rfl⟩ | ⟨_, h⟩
    · exact hd
    · exact ok.nd i x h
  · rcases key i x hi with ⟨ei, ex⟩ | ⟨ni, hi2⟩
    · rcases key j y hj with ⟨ej, ey⟩ | ⟨nj, hj2⟩
      · exact absurd (ei.trans ej.symm) hij
      · intro k h1
        rw [ex] at h1
        have := (hk k h1).2 j nj
        rwa [trks_of hj2] at this
    · rcases key j y hj with ⟨ej, ey⟩ | ⟨nj, hj2⟩
      · intro k h1 h2
        rw [ey] at h2
        have := (hk k h2).2 i ni
        rw [trks_of hi2] at this
        exact this h1
      · exact ok.dj i j x y hi2 hj2 hij
theorem RcsOk.drop {R : Rcs} {H : Nat} (ok : RcsOk R H) (id : Int) : RcsOk (R.drop id) H := by
  have key : ∀ i x, R.drop id i = some x → R i = some x := by
    intro i x h
    unfold Rcs.drop at h
    by_cases e : i = id
    · rw [if_pos e] at h; cases h
    · rwa [if_neg e] at h
  exact ⟨fun i x h => ok.id i x (key i x h), fun i x h => ok.b i x (key i x h), fun i x h => ok.len i x (key i x h), fun i x h => ok.tr i x (key i x h), fun i x h => ok.nd i x (key i x h), fun i j x y hi hj => ok.dj i j x y (key i x hi) (key j y hj)⟩
theorem RcsOk.none (H : Nat) : RcsOk noRcs H := ⟨nofun, nofun, nofun, nofun, nofun, nofun⟩

/-- the answer of a Put -/
def putC (R : Rcs) (H : Nat) (lost : Bool) (id : Int) (n : Nat) : Int :=
  if id < 1 ∨ 40 < id ∨ 60000 < n then 1 else if lost = true then 4 else if H + (R.trks id).length < takes n + R.used then 3 else 0
def Rcs.putB (R : Rcs) (id : Int) (b : List Int) : Rcs := R.put id (b, R.nextT id b.length)
def Rcs.putted (R : Rcs) (H : Nat) (lost : Bool) (id : Int) (b : List Int) : Rcs := if putC R H lost id b.length = 0 then R.putB id b else R
theorem putted_ok {R : Rcs} {H : Nat} (ok : RcsOk R H) (h0 : 0 < H) (hH : H ≤ 4096) {lost : Bool} {id : Int} {b : List Int} (hy : IsBytes b) : RcsOk (R.putted H lost id b) H := by
  unfold Rcs.putted
  split
  · rename_i h
    have hc : ¬ (id < 1 ∨ 40 < id ∨ 60000 < b.length) := fun e => by unfold putC at h; rw [if_pos e] at h; omega
    have hf : ¬ (H + (R.trks id).length < takes b.length + R.used) := fun e => by
      unfold putC at h
      rw [if_neg hc, if_pos e] at h
      split at h <;> omega
    obtain ⟨n1, n2, n3⟩ := nextT_spec ok h0 hH (id := id) (n := b.length) (by omega)
    exact ok.put (by omega) (by omega) hy n1 n2 n3
  · exact ok

end Go.Proofs.YtleoelhhndeheaaGreat

/- maps with int keys: ranged over, struck -/
open Go Go.RowKit
open Go.Maps (Keyed has)
namespace Go.Proofs.YtleoelhhndeheaaGreat

/-- block b is ranged over by the iterator r; left: what is still to come -/
structure IRng (w : World) (b r n : Nat) (T : Int → Option Value) (left : Int → Bool) (cnt : Nat) : Prop where
  out : ∃ (D : DataW Value) (lf : Lit → Bool), w.ranges Tryz.prog 3 rawE b r n D lf cnt ∧ (∀ x, has D (ky x) = (T x).isSome) ∧ (∀ x v, T x = some v → D.atKey (ky x) .nil = .held v) ∧ (∀ x, lf (ky x) = left x) ∧ (∀ l, lf l = true → has D l = true)
theorem IRng.map {w : World} {b r n : Nat} {T : Int → Option Value} {left : Int → Bool} {cnt : Nat} (h : IRng w b r n T left cnt) : IMap w b n T := by
  obtain ⟨D, lf, h1, h2, h3, -⟩ := h.out
  exact ⟨D, h1.owns, h2, h3⟩
theorem IRng.left_eq {w : World} {b r n : Nat} {T : Int → Option Value} {left : Int → Bool} {cnt : Nat} (h : IRng w b r n T left cnt) : w.rangeLeft b r = cnt := by
  obtain ⟨D, lf, h1, -⟩ := h.out
  exact h1.left_eq
theorem IRng.lt {w : World} {b r n : Nat} {T : Int → Option Value} {left : Int → Bool} {cnt : Nat} (h : IRng w b r n T left cnt) : r < w.heap.size := by
  obtain ⟨D, lf, h1, -⟩ := h.out
  exact h1.lt
theorem IRng.ne {w : World} {b r n : Nat} {T : Int → Option Value} {left : Int → Bool} {cnt : Nat} (h : IRng w b r n T left cnt) : r ≠ b := by
  obtain ⟨D, lf, h1, -⟩ := h.out
  exact h1.ne
theorem IRng.congr {w : World} {b r n : Nat} {T : Int → Option Value} {left left' : Int → Bool} {cnt : Nat} (h : IRng w b r n T left cnt) (e : ∀ x, left x = left' x) : IRng w b r n T left' cnt := by
  have : left = left' := funext e
  exact this ▸ h
theorem World.ranges.keep2 {H : Type} {P : Program} {k : TypeId} {R : Value → Option (DataW H × List MemPlace)} {w w' : World} {b r n : Nat} {D : DataW H} {left : Lit → Bool} {cnt : Nat} (h : w.ranges P k R b r n D left cnt) (hb : w'.heap[b]? = w.heap[b]?) (hr : w'.heap[r]? = w.heap[r]?) : w'.ranges P k R b r n D left cnt := by
  unfold World.ranges at h ⊢
  rw [hb, hr]
  exact h
theorem IRng.ext {w w' : World} {b r n : Nat} {T : Int → Option Value} {left : Int → Bool} {cnt : Nat} (h : IRng w b r n T left cnt) {F : Nat → Prop} (k : Ext F w w') (hb : ¬ F b) (hr : ¬ F r) : IRng w' b r n T left cnt := by
  have l1 := h.map.lt
  have l2 := h.lt
  obtain ⟨D, lf, h1, h2⟩ := h.out
  exact ⟨D, lf, World.ranges.keep2 h1 (k.block b l1 hb) (k.block r l2 hr), h2⟩
theorem IRng.below {w w' : World} {b r n : Nat} {T : Int → Option Value} {left : Int → Bool} {cnt : Nat} (h : IRng w b r n T left cnt) {B : Nat} (k : Below B w w') (hB : w.heap.size ≤ B) : IRng w' b r n T left cnt := by
  have l1 := h.map.lt
  have l2 := h.lt
  obtain ⟨D, lf, h1, h2⟩ := h.out
  exact ⟨D, lf, World.ranges.keep2 h1 (k.block b (by omega)) (k.block r (by omega)), h2⟩

section
variable {P : Program} (hP : P = Tryz.prog) (w : World) {ops : Array Oper} {rest : List Oper} {o : Oper} {a : Act} {Q : Exit → Act → World → Prop}
include hP

/-- 'range m' -/
theorem wpList_range_im (hg : o.guard = none) (m : Operand) (t : TypeId) (hop : o.op = Op.range t m) (e : TypeId) (ht : Tryz.prog.underlying t = some (.map 3 e)) (b n : Nat) (T : Int → Option Value)
    (hm : a.eval m = .map (some b)) (hown : IMap w b n T)
    (hK : ∀ w' cnt, IRng w' b w.heap.size n T (fun x => (T x).isSome) cnt → Below w.heap.size w w' → w'.heap.size = w.heap.size + 1 → wpList P ops Q rest (a.put o.dst (.pointer (some ⟨w.heap.size, 0, none⟩))) w') :
    wpList P ops Q (o :: rest) a w := by
  subst hP
  obtain ⟨D, h1, h2, h3⟩ := hown.out
  refine wpList_range_own w hg m t hop 3 e iK ht rawE b n D hm h1 fun w' r1 r2 r3 => hK w' _ ⟨D, _, r1, h2, h3, h2, fun l hl => hl⟩ ?_ r3
  exact (Below.refl _ w).grown r2 (Nat.le_refl _) (by intro q hq; cases hq)

/-- the next entry -/
theorem wpList_next_im (hg : o.guard = none) (it : Operand) (hop : o.op = Op.next it false) (b r n : Nat) (T : Int → Option Value) (left : Int → Bool) (cnt : Nat)
    (hit : a.eval it = .pointer (some ⟨r, 0, none⟩)) (h : IRng w b r n T left cnt)
    (hDone : (∀ x, left x = false) → wpList P ops Q rest (a.put o.dst (.tuple #[.bool false])) w)
    (hMore : ∀ (x : Int) (v : Value) (w' : World) (cnt' : Nat), T x = some v → left x = true → -9223372036854775808 ≤ x ∧ x ≤ 9223372036854775807 → IRng w' b r n T (fun y => left y && !decide (y = x)) cnt' → cnt' < cnt →
      Ext (· = r) w w' → (Instr.entry (.pointer (some ⟨r, 0, none⟩))).run Tryz.prog w' = .ok (.tuple #[.int .i64 x, v]) w' → wpList P ops Q rest (a.put o.dst (.tuple #[.bool true, .int .i64 x, v])) w') :
    wpList P ops Q (o :: rest) a w := by
  subst hP
  obtain ⟨D, lf, h1, h2, h3, h4, h5⟩ := h.out
  refine wpList_next_ranges w hg it hop 3 iK rawE (Value.int .i64) (id : Value → Value) (fun key kl hkey => by obtain ⟨x, rfl, _⟩ := Maps.keyOf_int_inv Tryz.underlying3 hkey; exact ⟨x, rfl⟩) (fun v y hv => ⟨v, rfl⟩) b r n D lf cnt hit h1 (fun _ hl => hDone fun x => by rw [← h4]; exact hl _) ?_
  intro x c kl y w' cnt' hkey hlk hv hat hrg hlt hgr hsz hen
  obtain ⟨x', ex, rfl, hwx⟩ := Maps.keyOf_int_inv Tryz.underlying3 hkey
  cases ex
  have hT : (T x).isSome = true := by rw [← h2]; exact h5 _ hlk
  obtain ⟨v, hTv⟩ := Option.isSome_iff_exists.1 hT
  have hv2 := h3 x v hTv
  rw [hat, show y = (.held c, []) from (by simpa [rawE] using hv.symm)] at hv2
  simp only [DataW.held.injEq] at hv2
  obtain rfl : c = v := hv2
  refine hMore x c w' cnt' hTv (by rw [← h4]; exact hlk) (bd_i64 hwx) ⟨D, _, hrg, h2, h3, fun z => ?_, fun l hl => h5 l (by simp only [Bool.and_eq_true] at hl; exact hl.1)⟩ hlt ⟨hgr.os, hgr.tape, hgr.output, hgr.size, fun q hq hf => hgr.block q hq (by simpa using hf)⟩ hen
  show (lf (ky z) && !(ky z).sameKey (ky x)) = _
  rw [h4]
  by_cases e : z = x
  · subst e; simp [Lit.sameKey, ky]
  · have : (ky z).sameKey (ky x) = false := by simp [Lit.sameKey, ky, e]
    rw [this]; simp [e]

/-- 'delete(m, k)' -/
theorem wpList_delete_im (hg : o.guard = none) (m x : Operand) (t k : TypeId) (hop : o.op = Op.call { callee := Callee.builtin Builtin.delete, args := #[m, x], argTypes := #[t, k] }) (hk : k = 3)
    (e : TypeId) (ht : Tryz.prog.underlying t = some (.map 3 e)) (b n : Nat) (T : Int → Option Value)
    (hm : a.eval m = .map (some b)) (hown : IMap w b n T) (key : Int) (hx : a.eval x = .int .i64 key) (hkey : -9223372036854775808 ≤ key ∧ key ≤ 9223372036854775807)
    (hK : ∀ w', IMap w' b n (fun k => if k = key then none else T k) → Ext (· = b) w w' → wpList P ops Q rest (a.put o.dst (.tuple #[])) w') :
    wpList P ops Q (o :: rest) a w := by
  subst hP hk
  obtain ⟨D, h1, h2, h3⟩ := hown.out
  refine wpList_delete_own w hg m x t 3 hop e iK ht rawE b n D hm h1 _ _ hx (kyOf hkey) fun w' r1 r2 => hK w' ⟨_, r1, fun z => ?_, fun z v hz => ?_⟩ ?_
  · by_cases e : z = key
    · subst e
      rw [if_pos rfl, Maps.has_del_same]; rfl
    · rw [if_neg e, Maps.has_del_other (ky_ne e), h2]
  · by_cases e : z = key
    · rw [if_pos e] at hz; cases hz
    · rw [if_neg e] at hz
      rw [Maps.atKey_del_other (ky_ne e)]
      exact h3 z v hz
  · have g := r2.grown
    exact ⟨g.os, g.tape, g.output, g.size, fun q hq hf => g.block q hq (by simpa using hf)⟩
/-- an entry of a map that is written out -/
theorem wpList_insert_im (hg : o.guard = none) (m x v : Operand) (t : TypeId) (hop : o.op = Op.insert t m x v) (e : TypeId) (ht : Tryz.prog.underlying t = some (.map 3 e)) (b n : Nat) (T : Int → Option Value)
    (hm : a.eval m = .map (some b)) (hown : IMap w b n T) (hn : n < maxLen) (key : Int) (val : Value) (hx : a.eval x = .int .i64 key) (hv : a.eval v = val) (hk : -9223372036854775808 ≤ key ∧ key ≤ 9223372036854775807)
    (hK : ∀ w', IMap w' b (n + 1) (fun k => if k = key then some val else T k) → w.grownBy w' (some b) → wpList P ops Q rest (a.put o.dst undef) w') :
    wpList P ops Q (o :: rest) a w := by
  subst hP
  refine wpList_plain hg fun K' hK' => ?_
  obtain ⟨w', hrun, r1, r2⟩ := hown.store ht hn hk val
  unfold Oper.wp
  simp [execOp, hop, hm, hx, hv, hrun, Result.andThen]
  exact hK' _ _ (hK w' r1 r2)
end

/-- 'm[k] = v' in a region that draws its order -/
theorem step_mapUpdate_im {P : Program} (hP : P = Tryz.prog) {ops : Array Oper} {o : Oper} {act : Act} {w : World} {K : Act → World → Prop} {Q : Exit → Act → World → Prop} {E : Prop} (hgd : o.guard = none) (m x v : Operand) (t : TypeId) (hop : o.op = Op.mapUpdate t m x v)
    (e : TypeId) (ht : Tryz.prog.underlying t = some (.map 3 e)) (b n : Nat) (T : Int → Option Value) (hm : act.eval m = .map (some b)) (hown : IMap w b n T) (hn : n < maxLen) (key : Int) (val : Value) (hx : act.eval x = .int .i64 key) (hv : act.eval v = val)
    (hk : -9223372036854775808 ≤ key ∧ key ≤ 9223372036854775807) (h : ∀ w', IMap w' b (n + 1) (fun k => if k = key then some val else T k) → w.grownBy w' (some b) → K (act.put o.dst undef) w') :
    if Region.wanted o (yielded ops act.tmps) = true then Oper.wp P o act w K Q else E := by
  have hw : Region.wanted o (yielded ops act.tmps) = true := by simp [Region.wanted, hgd]
  rw [if_pos hw]
  subst hP
  obtain ⟨w', hrun, r1, r2⟩ := hown.store ht hn hk val
  unfold Oper.wp
  simp [execOp, hop, hm, hx, hv, hrun, Result.andThen]
  exact h w' r1 r2

end Go.Proofs.YtleoelhhndeheaaGreat

/- maps with int keys: an entry that is made first and stored into behind -/
open Go Go.RowKit
open Go.Maps (Keyed has)
open Go.WideElems (Fit)
namespace Go.Proofs.YtleoelhhndeheaaGreat

/-- the key x stands in the map in block b, and bears the stamp st -/
def EntryAt (w : World) (b : Nat) (x st : Int) : Prop := ∃ (es : Array MapEntry) (c j : Nat) (e : MapEntry), w.heap[b]? = some (.map es c) ∧ es[j]? = some e ∧ e.key = .int .i64 x ∧ (e.born : Int) = st
theorem EntryAt.keep {w w' : World} {b : Nat} {x st : Int} (h : EntryAt w b x st) (hb : w'.heap[b]? = w.heap[b]?) : EntryAt w' b x st := by
  obtain ⟨es, c, j, e, h1, h2⟩ := h
  exact ⟨es, c, j, e, hb.trans h1, h2⟩

theorem nodup_at {α β : Type} (f : α → β) : ∀ (l : List α) (i j : Nat) (a b : α), (l.map f).Nodup → l[i]? = some a → l[j]? = some b → f a = f b → i = j
  | [], i, j, a, b, _, h, _, _ => by simp at h
  | x :: r, 0, 0, a, b, _, _, _, _ => rfl
  | x :: r, 0, j + 1, a, b, hn, h1, h2, e => by
    obtain rfl : x = a := by simpa using h1
    have := (List.nodup_cons.1 hn).1
    exact absurd (List.mem_map.2 ⟨b, List.mem_of_getElem? (by simpa using h2), e.symm⟩) this
  | x :: r, i + 1, 0, a, b, hn, h1, h2, e => by
    obtain rfl : x = b := by simpa using h2
    have := (List.nodup_cons.1 hn).1
    exact absurd (List.mem_map.2 ⟨a, List.mem_of_getElem? (by simpa using h1), e⟩) this
  | x :: r, i + 1, j + 1, a, b, hn, h1, h2, e => by
    rw [nodup_at f r i j a b (List.nodup_cons.1 hn).2 (by simpa using h1) (by simpa using h2) e]

/-- the entry's key is known, its value (old, or nought) comes out with its stamp -/
theorem IMap.entry {w : World} {b n : Nat} {T : Int → Option Value} (h : IMap w b n T) {t e : TypeId} (ht : Tryz.prog.underlying t = some (.map 3 e)) (hn : n < maxLen) {z : Value} (hz : (zeroValue e).run Tryz.prog w = .ok z w) {x : Int} (hx : -9223372036854775808 ≤ x ∧ x ≤ 9223372036854775807) :
    ∃ u st w1, (Instr.mapEntry t (.map (some b)) (.int .i64 x)).run Tryz.prog w = .ok (.tuple #[u, .int .i64 st]) w1 ∧ IMap w1 b (n + 1) (fun k => if k = x then some ((T x).getD z) else T k) ∧ w.grownBy w1 (some b) ∧ EntryAt w1 b x st := by
  obtain ⟨w', hrun, hI, hg⟩ := h.store ht hn hx ((T x).getD z)
  have lk := h.look ht hz hx
  obtain ⟨D, ⟨es, clock, hb, F, hs, hD⟩, h2, h3⟩ := h.out
  have hkey := kyOf hx
  have hlt : b < w.heap.size := by
    rcases Nat.lt_or_ge b w.heap.size with h | h
    · exact h
    · rw [Array.getElem?_eq_none h] at hb; cases hb
  rcases iK.find w hkey es.toList F.keys with ⟨f1, f2⟩ | ⟨j, e0, f1, f2, f3⟩
  · have hT : (T x).getD z = z := by
      have : (Instr.lookup t (.map (some b)) (.int .i64 x) false).run Tryz.prog w = .ok z w := by
        simp [Instr.lookup, run_underlying ht, MapKept.run_getObj_map hb, iK.check w es.isEmpty hkey, f1, hz, Result.andThen]
      exact (Result.ok.inj (this.symm.trans lk)).1.symm
    rw [hT] at hrun hI ⊢
    have r1 : (Instr.mapUpdate t (.map (some b)) (.int .i64 x) z).run Tryz.prog w = .ok () { w with heap := w.heap.setIfInBounds b (.map (es.push ⟨.int .i64 x, z, clock⟩) (clock + 1)) } := by
      simp [Instr.mapUpdate, run_underlying ht, MapKept.run_getObj_map hb, iK.check w false hkey, f1, MapKept.run_setObj_map _ hb, Result.andThen]
    have hw := (Result.ok.inj (r1.symm.trans hrun)).2
    refine ⟨z, clock, w', ?_, hI, hg, ?_⟩
    · rw [← hw]
      simp [Instr.mapEntry, run_underlying ht, MapKept.run_getObj_map hb, iK.check w false hkey, f1, hz, MapKept.run_setObj_map _ hb, Result.andThen, goInt]
    · rw [← hw]
      refine ⟨es.push ⟨.int .i64 x, z, clock⟩, clock + 1, es.size, ⟨.int .i64 x, z, clock⟩, ?_, by simp, rfl, rfl⟩
      show (w.heap.setIfInBounds b _)[b]? = _
      rw [Array.getElem?_setIfInBounds]
      simp [hlt]
  · have hj : es[j]? = some e0 := by simpa using f2
    have hT : (T x).getD z = e0.val := by
      have : (Instr.lookup t (.map (some b)) (.int .i64 x) false).run Tryz.prog w = .ok e0.val w := by
        simp [Instr.lookup, run_underlying ht, MapKept.run_getObj_map hb, iK.check w es.isEmpty hkey, f1, Result.andThen]
      exact (Result.ok.inj (this.symm.trans lk)).1.symm
    rw [hT] at hrun hI ⊢
    have st := iK.stays w hkey
    have r1 : (Instr.mapUpdate t (.map (some b)) (.int .i64 x) e0.val).run Tryz.prog w = .ok () { w with heap := w.heap.setIfInBounds b (.map (es.modify j fun e => { e with key := .int .i64 x, val := e0.val }) clock) } := by
      simp [Instr.mapUpdate, run_underlying ht, MapKept.run_getObj_map hb, iK.check w false hkey, f1, hj, f3, st, MapKept.run_setObj_map _ hb, Result.andThen]
    have em : (es.modify j fun e => { e with key := .int .i64 x, val := e0.val }) = es.modify j fun e => { e with key := .int .i64 x } := by
      apply Array.ext_getElem?
      intro k
      rw [Array.getElem?_modify, Array.getElem?_modify]
      split
      · rename_i ek
        subst ek
        rw [hj]
        rfl
      · rfl
    rw [em] at r1
    have hw := (Result.ok.inj (r1.symm.trans hrun)).2
    refine ⟨e0.val, e0.born, w', ?_, hI, hg, ?_⟩
    · rw [← hw]
      simp [Instr.mapEntry, run_underlying ht, MapKept.run_getObj_map hb, iK.check w false hkey, f1, hj, f3, st, MapKept.run_setObj_map _ hb, Result.andThen, goInt]
    · rw [← hw]
      refine ⟨es.modify j fun e => { e with key := .int .i64 x }, clock, j, { e0 with key := .int .i64 x }, ?_, by rw [Array.getElem?_modify]; simp [hj], rfl, rfl⟩
      show (w.heap.setIfInBounds b _)[b]? = _
      rw [Array.getElem?_setIfInBounds]
      simp [hlt]

/-- the store into that entry -/
theorem IMap.entryStore {w : World} {b n : Nat} {T : Int → Option Value} (h : IMap w b n T) {t e : TypeId} (ht : Tryz.prog.underlying t = some (.map 3 e)) (hn : n < maxLen) {x st : Int} (hx : -9223372036854775808 ≤ x ∧ x ≤ 9223372036854775807) (he : EntryAt w b x st) (val : Value) :
    ∃ w', (Instr.entryStore t (.map (some b)) (.int .i64 st) val).run Tryz.prog w = .ok () w' ∧ IMap w' b (n + 1) (fun k => if k = x then some val else T k) ∧ w.grownBy w' (some b) := by
  obtain ⟨w', hrun, hI, hg⟩ := h.store ht hn hx val
  refine ⟨w', ?_, hI, hg⟩
  obtain ⟨D, ⟨es, clock, hb, F, hs, hD⟩, h2, h3⟩ := h.out
  obtain ⟨es', c', j, e1, k1, k2, k3, k4⟩ := he
  rw [hb] at k1
  obtain ⟨rfl, rfl⟩ : es = es' ∧ clock = c' := by
    simp only [Option.some.injEq] at k1
    injection k1 with q1 q2
    exact ⟨q1, q2⟩
  have hkey := kyOf hx
  have k2' : es.toList[j]? = some e1 := by simpa using k2
  rcases iK.find w hkey es.toList F.keys with ⟨f1, f2⟩ | ⟨j', e0, f1, f2, f3⟩
  · exact absurd k3 (f2 e1 (List.mem_of_getElem? k2'))
  · have hjj : j' = j := nodup_at (·.key) es.toList j' j e0 e1 F.stamped.2.2 f2 k2' (f3.trans k3.symm)
    subst hjj
    have hj : es[j']? = some e0 := by simpa using f2
    obtain rfl : e0 = e1 := by rw [hj] at k2; simpa using k2
    have hst := iK.stays w hkey
    have r1 : (Instr.mapUpdate t (.map (some b)) (.int .i64 x) val).run Tryz.prog w = .ok () { w with heap := w.heap.setIfInBounds b (.map (es.modify j' fun e => { e with key := .int .i64 x, val := val }) clock) } := by
      simp [Instr.mapUpdate, run_underlying ht, MapKept.run_getObj_map hb, iK.check w false hkey, f1, hj, f3, hst, MapKept.run_setObj_map _ hb, Result.andThen]
    have em : (es.modify j' fun e => { e with key := .int .i64 x, val := val }) = es.modify j' fun e => { e with val := val } := by
      apply Array.ext_getElem?
      intro k
      rw [Array.getElem?_modify, Array.getElem?_modify]
      split
      · rename_i ek
        subst ek
        rw [hj]
        simp [f3]
      · rfl
    rw [em] at r1
    have hw := (Result.ok.inj (r1.symm.trans hrun)).2
    have hf : es.findIdx? (fun e => (e.born : Int) == st) = some j' := by
      rw [Array.findIdx?_eq_some_iff_getElem]
      have hl : j' < es.size := (Array.getElem?_eq_some_iff.1 hj).1
      have eg : es[j'] = e0 := (Array.getElem?_eq_some_iff.1 hj).2
      refine ⟨hl, by rw [eg]; simpa using k4, fun i hi hb' => ?_⟩
      have hil : i < es.size := by omega
      have e2 : ((es[i]).born : Int) = st := by simpa using hb'
      have := nodup_at (·.born) es.toList i j' (es[i]) e0 F.stamped.2.1 (by simp [hil]) f2 (by
        have : ((es[i]).born : Int) = (e0.born : Int) := e2.trans k4.symm
        exact Int.ofNat.inj this)
      omega
    rw [← hw]
    simp [Instr.entryStore, MapKept.run_getObj_map hb, asInt, asIntOf, hf, MapKept.run_setObj_map _ hb, Result.andThen]

theorem step_mapEntry_im {P : Program} (hP : P = Tryz.prog) {ops : Array Oper} {o : Oper} {act : Act} {w : World} {K : Act → World → Prop} {Q : Exit → Act → World → Prop} {E : Prop} (hgd : o.guard = none) (m x : Operand) (t : TypeId) (hop : o.op = Op.mapEntry t m x)
    (e : TypeId) (ht : Tryz.prog.underlying t = some (.map 3 e)) (b n : Nat) (T : Int → Option Value) (hm : act.eval m = .map (some b)) (hown : IMap w b n T) (hn : n < maxLen) (z : Value) (hz : (zeroValue e).run Tryz.prog w = .ok z w) (key : Int) (hx : act.eval x = .int .i64 key)
    (hk : -9223372036854775808 ≤ key ∧ key ≤ 9223372036854775807) (h : ∀ u st w', IMap w' b (n + 1) (fun k => if k = key then some ((T key).getD z) else T k) → w.grownBy w' (some b) → EntryAt w' b key st → K (act.put o.dst (.tuple #[u, .int .i64 st])) w') :
    if Region.wanted o (yielded ops act.tmps) = true then Oper.wp P o act w K Q else E := by
  have hw : Region.wanted o (yielded ops act.tmps) = true := by simp [Region.wanted, hgd]
  rw [if_pos hw]
  subst hP
  obtain ⟨u, st, w', hrun, r1, r2, r3⟩ := hown.entry ht hn hz hk
  unfold Oper.wp
  simp [execOp, hop, hm, hx, hrun, Result.andThen]
  exact h u st w' r1 r2 r3
theorem step_entryStore_im {P : Program} (hP : P = Tryz.prog) {ops : Array Oper} {o : Oper} {act : Act} {w : World} {K : Act → World → Prop} {Q : Exit → Act → World → Prop} {E : Prop} (hgd : o.guard = none) (m s v : Operand) (t : TypeId) (hop : o.op = Op.entryStore t m s v)
    (e : TypeId) (ht : Tryz.prog.underlying t = some (.map 3 e)) (b n : Nat) (T : Int → Option Value) (hm : act.eval m = .map (some b)) (hown : IMap w b n T) (hn : n < maxLen) (key st : Int) (val : Value) (hs : act.eval s = .int .i64 st) (hv : act.eval v = val)
    (hk : -9223372036854775808 ≤ key ∧ key ≤ 9223372036854775807) (he : EntryAt w b key st) (h : ∀ w', IMap w' b (n + 1) (fun k => if k = key then some val else T k) → w.grownBy w' (some b) → K (act.put o.dst undef) w') :
    if Region.wanted o (yielded ops act.tmps) = true then Oper.wp P o act w K Q else E := by
  have hw : Region.wanted o (yielded ops act.tmps) = true := by simp [Region.wanted, hgd]
  rw [if_pos hw]
  subst hP
  obtain ⟨w', hrun, r1, r2⟩ := hown.entryStore ht hn hk he val
  unfold Oper.wp
  simp [execOp, hop, hm, hs, hv, hrun, Result.andThen]
  exact h w' r1 r2

end Go.Proofs.YtleoelhhndeheaaGreat

/- package vault: records in memory -/
open Go Go.RowKit
open Go.Maps (Keyed has)
namespace Go.Proofs.YtleoelhhndeheaaGreat

/-- a slice that nobody writes, outside D -/
structure Hld (w : World) (D : Nat → Prop) (v : Value) (vs : List Value) : Prop where
  out : ∃ a c, v = .slice a vs.length c ∧ Row w a vs ∧ vs.length ≤ c ∧ c ≤ maxLen ∧ (a = none → vs.length = 0 ∧ c = 0) ∧ (0 < vs.length → ¬ D (sB a))
theorem Hld.step {w w' : World} {D D' : Nat → Prop} {v : Value} {vs : List Value} (h : Hld w D v vs) {F : Nat → Prop} (k : Ext F w w') (hF : ∀ q, F q → D q) (hD : ∀ q, D' q → D q ∨ w.heap.size ≤ q) : Hld w' D' v vs := by
  obtain ⟨a, c, h1, h2, h3, h4, h5, h6⟩ := h.out
  refine ⟨a, c, h1, h2.ext k (fun hl hf => h6 hl (hF _ hf)), h3, h4, h5, fun hl hd => ?_⟩
  have := h2.lt hl
  rcases hD _ hd with h | h
  · exact h6 hl h
  · omega
theorem Hld.below {w w' : World} {D : Nat → Prop} {v : Value} {vs : List Value} (h : Hld w D v vs) {B : Nat} (k : Below B w w') (hB : w.heap.size ≤ B) : Hld w' D v vs := by
  obtain ⟨a, c, h1, h2, h3⟩ := h.out
  exact ⟨a, c, h1, h2.below k hB, h3⟩
theorem Hld.of_owns {w : World} {D : Nat → Prop} {base : Nat} {E : TypeId} {v : Value} {n : Nat} {vs : List Value} (h : w.ownsRow base E 1 v n vs) (hD : ∀ q, base ≤ q → q < w.heap.size → ¬ D q) : Hld w D v vs := by
  have h' := h
  obtain ⟨a, c, rfl, hl, h2, h3, h4, h5, h6⟩ := row_of_owns h
  refine ⟨a, c, by rw [hl], h4, by omega, h3, fun e => ?_, fun hp => hD _ (h5 (by omega)).1 (h5 (by omega)).2⟩
  subst e
  rcases h'.2 with ⟨hv, _⟩ | ⟨g, cap, cur, hv, _⟩
  · cases hv; exact ⟨by rw [hl], rfl⟩
  · cases hv

/-- records in two maps: their bytes, their tracks -/
structure RecP (w : World) (D : Nat → Prop) (db tb : Nat) (R : Rcs) : Prop where
  ne : db ≠ tb
  out : ∃ V U, IMap w db 41 V ∧ IMap w tb 41 U ∧ ∀ x, (R x = none ∧ V x = none ∧ U x = none) ∨ ∃ b l v u, R x = some (b, l) ∧ V x = some v ∧ U x = some u ∧ Hld w D v (B8 b) ∧ Hld w D u (I8 l)
theorem RecP.step {w w' : World} {D D' : Nat → Prop} {db tb : Nat} {R : Rcs} (h : RecP w D db tb R) {F : Nat → Prop} (k : Ext F w w') (hF : ∀ q, F q → D q) (h1 : ¬ F db) (h2 : ¬ F tb) (hD : ∀ q, D' q → D q ∨ w.heap.size ≤ q) : RecP w' D' db tb R := by
  obtain ⟨V, U, hv, hu, hx⟩ := h.out
  refine ⟨h.ne, V, U, hv.ext k h1, hu.ext k h2, fun x => ?_⟩
  rcases hx x with h | ⟨b, l, v, u, e1, e2, e3, e4, e5⟩
  · exact .inl h
  · exact .inr ⟨b, l, v, u, e1, e2, e3, e4.step k hF hD, e5.step k hF hD⟩
theorem RecP.below {w w' : World} {D : Nat → Prop} {db tb : Nat} {R : Rcs} (h : RecP w D db tb R) {B : Nat} (k : Below B w w') (hB : w.heap.size ≤ B) : RecP w' D db tb R := by
  obtain ⟨V, U, hv, hu, hx⟩ := h.out
  refine ⟨h.ne, V, U, hv.below k hB, hu.below k hB, fun x => ?_⟩
  rcases hx x with h | ⟨b, l, v, u, e1, e2, e3, e4, e5⟩
  · exact .inl h
  · exact .inr ⟨b, l, v, u, e1, e2, e3, e4.below k hB, e5.below k hB⟩
theorem RecP.lt {w : World} {D : Nat → Prop} {db tb : Nat} {R : Rcs} (h : RecP w D db tb R) : db < w.heap.size ∧ tb < w.heap.size := by
  obtain ⟨V, U, hv, hu, -⟩ := h.out
  exact ⟨hv.lt, hu.lt⟩

end Go.Proofs.YtleoelhhndeheaaGreat

/- package vault: the small functions -/
open Go Go.RowKit
namespace Go.Proofs.YtleoelhhndeheaaGreat

theorem takes_any (n : Nat) (w : World) (hn : n ≤ 1000000000) :
    Calls Tryz.prog 13 #[.int .i64 (n : Int)] w fun e w' => e = .returned (.int .i64 (takes n : Nat)) ∧ w = w' := by
  have HT := hid (show ((takes n : Nat) : Int) = max 1 ((n : Int) / 80 + min 1 ((n : Int) % 80)) by unfold takes; omega)
  have h0 : ((n : Int) < 0) = False := by simp
  have hm : min (1 : Int) ((n : Int) % 80) ≤ 1 ∧ 0 ≤ min (1 : Int) ((n : Int) % 80) := by omega
  obtain ⟨q, hq, hq2⟩ : ∃ q : Int, (n : Int) / 80 = q ∧ 0 ≤ q ∧ q ≤ 1000000000 := ⟨_, rfl, by omega, by omega⟩
  obtain ⟨r, hr, hr2⟩ : ∃ r : Int, (n : Int) % 80 = r ∧ 0 ≤ r ∧ r < 80 := ⟨_, rfl, by omega, by omega⟩
  go_enter Tryz.func13, Tryz.ntmps13
  go_wp2_with fail
  go_ret
  exact ⟨by rw [HT.out]; first | rfl | (refine ret_int ?_; omega), rfl⟩
theorem takes_neg (n : Int) (w : World) (hn : n < 0) :
    Calls Tryz.prog 13 #[.int .i64 n] w fun e w' => e = .returned (.int .i64 0) ∧ w = w' := by
  go_enter Tryz.func13, Tryz.ntmps13
  go_wp2_with fail
  go_ret
  exact ⟨rfl, rfl⟩

theorem vlaid_any (n : Int) (w : World) (hn : 0 ≤ n ∧ n < 281474976710656) :
    Calls Tryz.prog 91 #[.int .i64 n] w fun e w' => e = .returned (.slice (some ⟨w.heap.size, 0, none⟩) 2 2) ∧ w' = w.alloc (.cells (B8 (lay2 n)).toArray 5) := by
  go_enter Tryz.func91, Tryz.ntmps91
  go_wp2_with fail
  go_ret
  exact ⟨rfl, rfl⟩

theorem vclosed_any (a : Option Addr) (len cap : Nat) (zs : List Int) (w : World) (h : Row w a (B8 zs)) (hl : zs.length = len) (hn : a = none → len = 0) (hb : len ≤ 84) (hz : IsBytes zs) :
    Calls Tryz.prog 92 #[.slice a len cap] w fun e w' => ∃ v, e = .returned v ∧ w'.ownsRow w.heap.size 5 1 v 96 (B8 (closed zs)) ∧ Below w.heap.size w w' := by
  have CL := close_any a len cap zs w h hl hn hb hz
  go_enter Tryz.func92, Tryz.ntmps92
  go_wp2_with fail
  refine CL.mono ?_
  rintro e w1 ⟨v, rfl, o, B⟩
  go_wp2_with fail
  go_ret
  exact ⟨_, rfl, o, B⟩

theorem vnumber_any (a : Option Addr) (len cap : Nat) (zs : List Int) (w : World) (h : Row w a (B8 zs)) (hl : zs.length = len) (h2 : 2 ≤ len) (hz : IsBytes zs) :
    Calls Tryz.prog 78 #[.slice a len cap] w fun e w' => e = .returned (.int .i64 (n2 zs 0)) ∧ Below w.heap.size w w' := by
  have i0 : ∀ W', (Instr.indexAt 27 (.slice a len cap) (.int .i64 0)).run Tryz.prog W' = .ok (.pointer (some ⟨sB a, sO a, none⟩)) W' := idx_at1 (P := Tryz.prog) (T := 27) Tryz.underlying27 szB (cap := cap) (fun _ => h.nn (by simp; omega)) (show 0 < len by omega)
  have i1 : ∀ W', (Instr.indexAt 27 (.slice a len cap) (.int .i64 1)).run Tryz.prog W' = .ok (.pointer (some ⟨sB a, sO a + 1, none⟩)) W' := idx_at1 (P := Tryz.prog) (T := 27) Tryz.underlying27 szB (cap := cap) (fun _ => h.nn (by simp; omega)) (show 1 < len by omega)
  have c0 : w.cell? ⟨sB a, sO a, none⟩ = _ := h.byte (i := 0) (by omega)
  have c1 := h.byte (i := 1) (by omega)
  have b0 := hz.get 0
  have b1 := hz.get 1
  have HN := hid (show n2 zs 0 = zs[0]?.getD 0 * 256 + zs[1]?.getD 0 from rfl)
  obtain ⟨x, hx⟩ : ∃ x, zs[0]?.getD 0 = x := ⟨_, rfl⟩
  obtain ⟨y, hy⟩ : ∃ y, zs[1]?.getD 0 = y := ⟨_, rfl⟩
  rw [hx] at c0 b0
  rw [hy] at c1 b1
  have HX := hid hx
  have HY := hid hy
  have hor := i64_or8 (x * 256) y (by omega) (by omega) (by omega) b1.1 (by omega)
  clear h hl hx hy
  go_enter Tryz.func78, Tryz.ntmps78
  go_wp2_with fail
  go_quiet (fail)
  go_wp2_with fail
  go_ret
  exact ⟨by rw [HN.out, HX.out, HY.out]; rfl, Below.drewN (Below.refl _ _) _⟩

end Go.Proofs.YtleoelhhndeheaaGreat

/- package vault: records copied; used tracks -/
open Go Go.RowKit
open Go.Maps (Keyed has)
namespace Go.Proofs.YtleoelhhndeheaaGreat

/-- a sum over those that are left -/
def sumIf (f : Int → Nat) (p : Int → Bool) (l : List Int) : Nat := ((l.filter p).map f).sum
theorem sumIf_none (f : Int → Nat) {p : Int → Bool} (h : ∀ x, p x = false) (l : List Int) : sumIf f p l = 0 := by
  unfold sumIf
  rw [List.filter_eq_nil_iff.2 (fun x _ => by rw [h x]; simp)]; rfl
theorem sumIf_strike (f : Int → Nat) (p : Int → Bool) {x : Int} (hp : p x = true) : ∀ l : List Int, l.Nodup → x ∈ l → sumIf f p l = sumIf f (fun y => p y && !decide (y = x)) l + f x
  | [], _, h => by cases h
  | a :: r, hn, h => by
    have h2 := List.nodup_cons.1 hn
    by_cases e : a = x
    · subst e
      have hr : r.filter (fun y => p y && !decide (y = a)) = r.filter p := List.filter_congr fun y hy => by
        have : y ≠ a := fun e => h2.1 (e ▸ hy)
        simp [this]
      unfold sumIf
      rw [List.filter_cons_of_pos hp, List.filter_cons_of_neg (by simp), hr]
      simp; omega
    · have ih := sumIf_strike f p hp r h2.2 (by rcases List.mem_cons.1 h with h | h
                                                · exact absurd h.symm e
                                                · exact h)
      unfold sumIf at ih ⊢
      by_cases ha : p a = true
      · rw [List.filter_cons_of_pos ha, List.filter_cons_of_pos (by simp [ha, e])]
        simp only [List.map_cons, List.sum_cons]
        omega
      · rw [List.filter_cons_of_neg ha, List.filter_cons_of_neg (by simp [ha])]
        exact ih
theorem used_sum (R : Rcs) (p : Int → Bool) (h : ∀ x, p x = (R x).isSome) : R.used = 1 + sumIf (fun x => (R.trks x).length) p ids40 := by
  have key : ∀ l : List Int, usedOf R l = 1 + sumIf (fun x => (R.trks x).length) p l := by
    intro l
    induction l with
    | nil => rfl
    | cons a r ih =>
      show usedOf R r + (R.trks a).length = _
      rw [ih]
      unfold sumIf
      by_cases ha : p a = true
      · rw [List.filter_cons_of_pos ha]; simp; omega
      · rw [List.filter_cons_of_neg ha]
        have : R a = none := by rw [h] at ha; simpa using ha
        rw [trks_none this]; simp
  exact key _

set_option maxRecDepth 100000 in
set_option maxHeartbeats 4000000 in
theorem used_any {w : World} {D : Nat → Prop} {db tb : Nat} {R : Rcs} {H : Nat} (h : RecP w D db tb R) (ok : RcsOk R H) (h0 : 0 < H) (hH : H ≤ 4096) :
    Calls Tryz.prog 56 #[.agg #[.map (some db), .map (some tb)]] w fun e w' => e = .returned (.int .i64 (R.used : Nat)) ∧ Below w.heap.size w w' := by
  obtain ⟨V, U, hv, hu, hx⟩ := h.out
  have HX := hid hx
  have OK := hid ok
  have HU := hid hu
  have US := hid (used_sum R (fun x => (U x).isSome) (fun x => by
    rcases hx x with ⟨e1, e2, e3⟩ | ⟨b, l, v, u, e1, e2, e3, -⟩
    · simp [e1, e3]
    · simp [e1, e3]))
  have UL := used_le ok h0
  have lt := hu.lt
  clear hv hu hx h ok
  go_enter Tryz.func56, Tryz.ntmps56
  go_wp2_with (first | (at_range; refine wpList_range_im rfl _ rfl _ _ rfl 33 Tryz.underlying66 tb 41 U rfl (HU.out.below ?b0 (Nat.le_refl _)) ?_) | fail)
  case b0 => exact (Below.refl _ w).alloc (Nat.le_refl _) _
  intro w0 cnt RG B0 hs0
  obtain ⟨r, hr⟩ : ∃ r, w.heap.size + 1 = r := ⟨_, rfl⟩
  rw [hr] at RG
  try rw [hr]
  have BW : Below w.heap.size w w0 := ((Below.refl _ w).alloc (Nat.le_refl _) _).trans (B0.mono (by simp))
  have HRW := hid (show w.heap.size ≤ r by rw [← hr]; omega)
  clear B0 hs0 hr
  go_wp2_with fail
  go_loopw [3] (fun v wr => ∃ (k cnt : Nat) (left : Int → Bool), v = .int .i64 k ∧ IRng wr tb r 41 U left cnt ∧ Hid (R.used = k + sumIf (fun x => (R.trks x).length) left ids40) ∧ Below w.heap.size w wr) (fun _ wr => wr.rangeLeft tb r)
  case atStart => exact ⟨1, _, _, rfl, RG, US, BW⟩
  case round =>
    obtain ⟨k, cnt2, left, rfl, RGk, HS, BK⟩ := hrel
    have hk : k ≤ R.used := by have := HS.out; omega
    go_wp2_with (first | (at_next; refine wpList_next_im rfl _ rfl _ rfl tb r 41 U left cnt2 rfl RGk ?_ ?_) | fail)
    · intro hl
      have HL := hid hl
      clear hl
      go_wp2_with fail
      go_ret
      refine ⟨?_, BK⟩
      have := HS.out
      rw [sumIf_none _ HL.out] at this
      rw [this]; rfl
    · intro x v w3 cnt3 hT hleft hx1 hx2 RG3 hlt X3 hen
      have BR3 : Below w.heap.size w w3 := Below.ext BK X3 (fun i hi => by subst hi; exact HRW.out) BK.size
      obtain ⟨b, l, u, e1, e2, e3⟩ : ∃ b l u, R x = some (b, l) ∧ v = u ∧ Hld w D u (I8 l) := by
        rcases HX.out x with ⟨-, -, e⟩ | ⟨b, l, _, u, e1, -, e3, -, e5⟩
        · rw [e] at hT; cases hT
        · rw [e3] at hT; cases hT; exact ⟨b, l, _, e1, rfl, e5⟩
      subst e2
      obtain ⟨a, c, e4, -⟩ := e3.out
      obtain ⟨n, hn⟩ : ∃ n, l.length = n := ⟨_, rfl⟩
      rw [I8_length, hn] at e4
      subst e4
      have hS := sumIf_strike (fun x => (R.trks x).length) left hleft ids40 ids40_nodup (mem_ids40.2 (OK.out.id x _ e1))
      rw [trks_of e1] at hS
      simp only [hn] at hS
      have hb : k + n ≤ 4096 := by have := HS.out; omega
      have HS3 := hid hS
      have L3 := hid (show w3.rangeLeft tb r < wr.rangeLeft tb r by rw [RG3.left_eq, RGk.left_eq]; exact hlt)
      have RG4 := hid RG3
      clear hS hlt e3 hT hleft hn e1 RG3
      go_wp2_with fail
      go_roundw
      case measure => exact L3.out
      case rel =>
        refine ⟨k + n, cnt3, _, by go_num, RG4.out, hid ?_, BR3⟩
        have := HS.out
        have h3 := HS3.out
        omega

end Go.Proofs.YtleoelhhndeheaaGreat

/- package vault: records copied -/
open Go Go.RowKit
open Go.Maps (Keyed has)
namespace Go.Proofs.YtleoelhhndeheaaGreat

theorem zI' (w : World) : (zeroValue 33).run Tryz.prog w = .ok (.slice none 0 0) w := by kernel_rfl

/-- what of a map was taken over already -/
def gone (T : Int → Option Value) (left : Int → Bool) : Int → Option Value := fun x => if left x = true then none else T x
theorem gone_all (T : Int → Option Value) {left : Int → Bool} (h : ∀ x, left x = (T x).isSome) : ∀ x, gone T left x = none := by
  intro x
  unfold gone
  rw [h]
  cases hT : T x <;> simp
theorem gone_none (T : Int → Option Value) {left : Int → Bool} (h : ∀ x, left x = false) : ∀ x, gone T left x = T x := by
  intro x
  unfold gone
  rw [h]; simp
theorem gone_strike (T : Int → Option Value) (left : Int → Bool) {x : Int} {v : Value} (h : T x = some v) : ∀ k, (if k = x then some v else gone T left k) = gone T (fun y => left y && !decide (y = x)) k := by
  intro k
  unfold gone
  by_cases e : k = x
  · subst e; simp [h]
  · simp [e]

/-- a struct in a cell, alone -/
theorem results_cell1 {P : Program} {fn : Func} {p : Tmp} {ty : TypeId} (h : fn.results = #[.cell p ty]) (tmps : Array Value) (w : World) (g : Nat) (t : TypeId) (cs : Array Value) (fr : Nat × Nat) (d : TypeDesc)
    (hp : tmps.getD p undef = .pointer (some ⟨g, 0, none⟩)) (hg : w.heap[g]? = some (.cells cs t fr))
    (hu : P.underlying ty = some d) (hd : (match d with | .struct _ | .array _ _ => true | _ => false) = true) (hi : (P.info? ty).map (·.size) = some cs.size) :
    (results fn tmps).run P w = .ok (.agg cs) w := by
  have hp' : tmps[p]?.getD undef = .pointer (some ⟨g, 0, none⟩) := by simpa using hp
  simp [results, h, hp', asAddr, run_loadVar_row w g t ty cs fr d hg hu hd hi]

set_option maxRecDepth 100000 in
set_option maxHeartbeats 4000000 in
theorem copied_any {w : World} {D : Nat → Prop} {db tb : Nat} {R : Rcs} (h : RecP w D db tb R) (hid' : ∀ x, (R x).isSome → 1 ≤ x ∧ x ≤ 40) :
    Calls Tryz.prog 47 #[.agg #[.map (some db), .map (some tb)]] w fun e w' => ∃ d' t', e = .returned (.agg #[.map (some d'), .map (some t')]) ∧ w.heap.size ≤ d' ∧ w.heap.size ≤ t' ∧ RecP w' (fun q => D q ∨ w.heap.size ≤ q) d' t' R ∧ Below w.heap.size w w' := by
  obtain ⟨V, U, hv, hu, hx⟩ := h.out
  have HX := hid hx
  have HID := hid hid'
  have HV := hid hv
  have HU := hid hu
  have lt := hv.lt
  have lt2 := hu.lt
  clear hv hu hx h hid'
  have hmm := @run_makeMap Tryz.prog
  obtain ⟨x0, hx0⟩ : ∃ x0, w.heap.size = x0 := ⟨_, rfl⟩
  obtain ⟨W1, hW1⟩ : ∃ W1, (((((w.alloc (.cells #[.map (some db), .map (some tb)] 68)).alloc (.cells #[.map none, .map none] 68)).alloc (.map #[] 0)).alloc (.map #[] 0)).alloc (.cells #[.map (some (x0 + 1 + 1)), .map (some (x0 + 1 + 1 + 1))] 68)) = W1 := ⟨_, rfl⟩
  have BW1 : Below w.heap.size w W1 := by
    rw [← hW1]
    exact (((((Below.refl _ w).alloc (Nat.le_refl _) _).alloc (by simp) _).alloc (by simp; omega) _).alloc (by simp; omega) _).alloc (by simp; omega) _
  have sW1 : W1.heap.size = x0 + 5 := by rw [← hW1, ← hx0]; simp
  have y0 : W1.cell? ⟨x0, 0, none⟩ = some (.map (some db)) := by rw [← hW1, ← hx0]; exact cell_alloc _ (cell_alloc _ (cell_alloc _ (cell_alloc _ (blk_cell (blk_new _ _) rfl))))
  have y1 : W1.cell? ⟨x0, 1, none⟩ = some (.map (some tb)) := by rw [← hW1, ← hx0]; exact cell_alloc _ (cell_alloc _ (cell_alloc _ (cell_alloc _ (blk_cell (blk_new _ _) rfl))))
  have z0 : W1.cell? ⟨x0 + 4, 0, none⟩ = some (.map (some (x0 + 1 + 1))) := by rw [← hW1]; exact blk_cell (blk_at _ (by simp [hx0])) rfl
  have z1 : W1.cell? ⟨x0 + 4, 1, none⟩ = some (.map (some (x0 + 1 + 1 + 1))) := by rw [← hW1]; exact blk_cell (blk_at _ (by simp [hx0])) rfl
  have r0 : W1.cell? ⟨x0 + 1, 0, none⟩ = some (.map none) := by rw [← hW1]; exact cell_alloc _ (cell_alloc _ (cell_alloc _ (blk_cell (blk_at _ (by simp [hx0])) rfl)))
  have rb : W1.heap[x0 + 1]? = some (.cells #[.map none, .map none] 68 (0, 0)) := by
    rw [← hW1]
    exact (Below.heap_alloc _ _ _ (by simp [hx0])).trans ((Below.heap_alloc _ _ _ (by simp [hx0])).trans ((Below.heap_alloc _ _ _ (by simp [hx0])).trans (blk_at _ (by simp [hx0]))))
  have d1 : IMap W1 (x0 + 2) 41 (fun _ => none) := by
    have h0 := IMap.made ((w.alloc (.cells #[.map (some db), .map (some tb)] 68)).alloc (.cells #[.map none, .map none] 68))
    simp only [World.size_alloc, hx0] at h0
    have h1 := h0.small (H := 41) (fun x hx => by cases hx)
    rw [← hW1]
    exact (h1.below ((Below.refl _ _).alloc (Nat.le_refl _) _) (Nat.le_refl _)).below ((Below.refl _ _).alloc (Nat.le_refl _) _) (Nat.le_refl _)
  have t1 : IMap W1 (x0 + 3) 41 (fun _ => none) := by
    have h0 := IMap.made (((w.alloc (.cells #[.map (some db), .map (some tb)] 68)).alloc (.cells #[.map none, .map none] 68)).alloc (.map #[] 0))
    simp only [World.size_alloc, hx0] at h0
    have h1 := h0.small (H := 41) (fun x hx => by cases hx)
    rw [← hW1]
    exact h1.below ((Below.refl _ _).alloc (Nat.le_refl _) _) (Nat.le_refl _)
  have YS := hid (And.intro (And.intro y0 y1) (And.intro z0 z1))
  have RB := hid rb
  have D1 := hid d1
  have T1 := hid t1
  have BWH := hid BW1
  clear r0 rb d1 t1 BW1
  go_enter Tryz.func47, Tryz.ntmps47
  go_wp2_with (first | (at_range; refine wpList_range_im rfl _ rfl _ _ rfl 27 Tryz.underlying65 db 41 V rfl (HV.out.below BWH.out (Nat.le_refl _)) ?_) | fail)
  intro w0 cnt RG B0 hs0
  have VU := hid (show ∀ x, (V x).isSome = (U x).isSome from fun x => by
    rcases HX.out x with ⟨-, e2, e3⟩ | ⟨b, l, v, u, -, e2, e3, -⟩
    · rw [e2, e3]
    · rw [e2, e3]; rfl)
  have X0 : Ext (fun q => q = x0 + 2 ∨ q = x0 + 3) W1 w0 := Ext.of_below (by rw [sW1]; exact B0) _
  have X0' : Ext (fun q => False) W1 w0 := Ext.of_below (by rw [sW1]; exact B0) _
  have SW1 := hid sW1
  have HX0 := hid hx0
  clear B0 hs0 sW1 y0 y1 z0 z1
  go_wp2_with fail
  go_loopw [4] (fun _ wr => ∃ (cnt : Nat) (left : Int → Bool), IRng wr db (x0 + 5) 41 V left cnt ∧ Hid (IMap wr (x0 + 2) 41 (gone V left)) ∧ Hid (IMap wr (x0 + 3) 41 (gone U left)) ∧ Hid (Ext (fun q => q = x0 + 2 ∨ q = x0 + 3) W1 wr)) (fun _ wr => wr.rangeLeft db (x0 + 5))
  case atStart => exact ⟨_, _, RG, hid ((D1.out.ext X0' id).congr (fun x => (gone_all V (fun _ => rfl) x).symm)), hid ((T1.out.ext X0' id).congr (fun x => (gone_all U (fun x => VU.out x) x).symm)), hid X0⟩
  case round =>
    obtain ⟨cnt2, left, RGk, DK, TK, XK⟩ := hrel
    have ne2 : ¬ (db = x0 + 2 ∨ db = x0 + 3) := by omega
    go_wp2_with (first | (at_next; refine wpList_next_im rfl _ rfl _ rfl db (x0 + 5) 41 V left cnt2 rfl RGk ?_ ?_) | fail)
    · intro hl
      have HL := hid hl
      clear hl
      have z0 : wr.cell? ⟨x0 + 1 + 1 + 1 + 1, 0, none⟩ = some (.map (some (x0 + 1 + 1))) := XK.out.cell (by omega) YS.out.2.1
      have z1 : wr.cell? ⟨x0 + 1 + 1 + 1 + 1, 1, none⟩ = some (.map (some (x0 + 1 + 1 + 1))) := XK.out.cell (by omega) YS.out.2.2
      have rb : wr.heap[x0 + 1]? = some (.cells #[.map none, .map none] 68 (0, 0)) := XK.out.blk (by omega) RB.out
      have r0 : wr.cell? ⟨x0 + 1, 0, none⟩ = some (.map none) := blk_cell rb rfl
      have r1 : wr.cell? ⟨x0 + 1, 1, none⟩ = some (.map none) := blk_cell rb rfl
      have fr := fun o => blk_free (o := o) rb
      have RBR := hid rb
      clear rb
      go_wp2_with fail
      have rb2 : ((wr.setCell ⟨x0 + 1, 0, none⟩ (.map (some (x0 + 1 + 1)))).setCell ⟨x0 + 1, 1, none⟩ (.map (some (x0 + 1 + 1 + 1)))).heap[x0 + 1]? = some (.cells #[.map (some (x0 + 1 + 1)), .map (some (x0 + 1 + 1 + 1))] 68 (0, 0)) := blk_setCell (blk_setCell RBR.out _) _
      have XE : Ext (fun q => q = x0 + 1 ∨ q = x0 + 2 ∨ q = x0 + 3) W1 ((wr.setCell ⟨x0 + 1, 0, none⟩ (.map (some (x0 + 1 + 1)))).setCell ⟨x0 + 1, 1, none⟩ (.map (some (x0 + 1 + 1 + 1)))) :=
        ((XK.out.mono (fun _ _ h => .inr h)).trans Ext.set (fun i _ h => .inl h)).trans Ext.set (fun i _ h => .inl h)
      have XS : Ext (fun q => q = x0 + 1) wr ((wr.setCell ⟨x0 + 1, 0, none⟩ (.map (some (x0 + 1 + 1)))).setCell ⟨x0 + 1, 1, none⟩ (.map (some (x0 + 1 + 1 + 1)))) := Ext.set.trans Ext.set (fun i _ h => h)
      have BE : Below w.heap.size w ((wr.setCell ⟨x0 + 1, 0, none⟩ (.map (some (x0 + 1 + 1)))).setCell ⟨x0 + 1, 1, none⟩ (.map (some (x0 + 1 + 1 + 1)))) := Below.ext BWH.out XE (fun i h => by omega) BWH.out.size
      refine bodyPost_ret (results_cell1 rfl _ _ _ _ _ _ _ rfl rb2 Tryz.underlying68 rfl (by kernel_rfl)) rfl ⟨x0 + 2, x0 + 3, rfl, by omega, by omega, ⟨by omega, V, U, ?_, ?_, fun y => ?_⟩, BE⟩
      · exact (DK.out.congr (gone_none V HL.out)).ext XS (by omega)
      · exact (TK.out.congr (gone_none U HL.out)).ext XS (by omega)
      · rcases HX.out y with h | ⟨b, l, v, u, e1, e2, e3, e4, e5⟩
        · exact .inl h
        · exact .inr ⟨b, l, v, u, e1, e2, e3, (e4.step (Ext.refl (fun _ => False) w) (fun _ h => h.elim) (fun q hq => hq)).below BE (Nat.le_refl _), (e5.step (Ext.refl (fun _ => False) w) (fun _ h => h.elim) (fun q hq => hq)).below BE (Nat.le_refl _)⟩
    · intro x v w3 cnt3 hT hleft hx1 hx2 RG3 hlt X3 hen
      obtain ⟨u, hU⟩ : ∃ u, U x = some u := Option.isSome_iff_exists.1 (by rw [← VU.out, hT]; rfl)
      have L3 := hid (show w3.rangeLeft db (x0 + 5) < wr.rangeLeft db (x0 + 5) by rw [RG3.left_eq, RGk.left_eq]; exact hlt)
      have XK3 : Ext (fun q => q = x0 + 2 ∨ q = x0 + 3) W1 w3 := XK.out.trans X3 (fun i hi h => by have := SW1.out; omega)
      have c0 : w3.cell? ⟨x0, 0, none⟩ = some (.map (some db)) := XK3.cell (by omega) YS.out.1.1
      have c1 : w3.cell? ⟨x0, 1, none⟩ = some (.map (some tb)) := XK3.cell (by omega) YS.out.1.2
      have c2 : w3.cell? ⟨x0 + 1 + 1 + 1 + 1, 0, none⟩ = some (.map (some (x0 + 1 + 1))) := XK3.cell (by omega) YS.out.2.1
      have c3 : w3.cell? ⟨x0 + 1 + 1 + 1 + 1, 1, none⟩ = some (.map (some (x0 + 1 + 1 + 1))) := XK3.cell (by omega) YS.out.2.2
      have HUK := hid ((HU.out.below BWH.out (Nat.le_refl _)).ext XK3 (by omega))
      have HVK := hid RG3.map
      have SB : ∀ W, Ext (fun q => q = x0 + 2 ∨ q = x0 + 3) w3 W → ((W.cell? ⟨x0, 0, none⟩ = some (.map (some db)) ∧ W.cell? ⟨x0, 1, none⟩ = some (.map (some tb))) ∧ (W.cell? ⟨x0 + 1 + 1 + 1 + 1, 0, none⟩ = some (.map (some (x0 + 1 + 1))) ∧ W.cell? ⟨x0 + 1 + 1 + 1 + 1, 1, none⟩ = some (.map (some (x0 + 1 + 1 + 1))))) ∧ ((Instr.lookup 65 (.map (some db)) (.int .i64 x) false).run Tryz.prog W = .ok v W ∧ (Instr.lookup 66 (.map (some tb)) (.int .i64 x) false).run Tryz.prog W = .ok u W) := fun W k => by
        refine ⟨⟨⟨k.cell (by omega) c0, k.cell (by omega) c1⟩, k.cell (by omega) c2, k.cell (by omega) c3⟩, ?_, ?_⟩
        · have := (HVK.out.ext k (by omega)).look Tryz.underlying65 (zP W) (x := x) ⟨hx1, hx2⟩
          rwa [hT] at this
        · have := (HUK.out.ext k (by omega)).look Tryz.underlying66 (zI' W) (x := x) ⟨hx1, hx2⟩
          rwa [hU] at this
      have DK3 := hid (DK.out.ext X3 (by omega))
      have TK3 := hid (TK.out.ext X3 (by omega))
      have GD := hid (gone_strike V left hT)
      have GT := hid (gone_strike U left hU)
      have HXK := hid XK3
      have HRG := hid RG3
      have VS := hid (show ∀ y, (V y).isSome → 1 ≤ y ∧ y ≤ 40 from fun y hy => HID.out y (by
        rcases HX.out y with ⟨-, e, -⟩ | ⟨b, l, _, _, e, -⟩
        · rw [e] at hy; cases hy
        · rw [e]; rfl))
      have hxx := VS.out x (by rw [hT]; rfl)
      have KS1 := hid (show ∀ k, ((fun k => if k = x then some v else gone V left k) k).isSome → 0 ≤ k ∧ k < (41 : Nat) from fun k hk => by
        simp only at hk
        by_cases e : k = x
        · subst e; omega
        · rw [if_neg e] at hk
          unfold gone at hk
          split at hk
          · cases hk
          · have := VS.out k hk; omega)
      have KS2 := hid (show ∀ k, ((fun k => if k = x then some u else gone U left k) k).isSome → 0 ≤ k ∧ k < (41 : Nat) from fun k hk => by
        simp only at hk
        by_cases e : k = x
        · subst e; omega
        · rw [if_neg e] at hk
          unfold gone at hk
          split at hk
          · cases hk
          · have := VS.out k (by rw [VU.out]; exact hk); omega)
      clear hT hU hleft hlt X3 XK3 RG3 RGk
      go_wp2_with fail
      refine wp_region_held_drew (S := fun W => ((W.cell? ⟨x0, 0, none⟩ = some (.map (some db)) ∧ W.cell? ⟨x0, 1, none⟩ = some (.map (some tb))) ∧ (W.cell? ⟨x0 + 1 + 1 + 1 + 1, 0, none⟩ = some (.map (some (x0 + 1 + 1))) ∧ W.cell? ⟨x0 + 1 + 1 + 1 + 1, 1, none⟩ = some (.map (some (x0 + 1 + 1 + 1))))) ∧ ((Instr.lookup 65 (.map (some db)) (.int .i64 x) false).run Tryz.prog W = .ok v W ∧ (Instr.lookup 66 (.map (some tb)) (.int .i64 x) false).run Tryz.prog W = .ok u W)) (by kernel_rfl) (SB _ (((Ext.refl (fun q => q = x0 + 2 ∨ q = x0 + 3) w3).drew))) (fun hHeld => ?_)
      refine wpAnyH_take (i := 0) (v := ?v1) (by simp only [List.getElem?_toArray, List.getElem?_cons_zero]; rfl) (by kernel_rfl) (by kernel_rfl) (by kernel_rfl) (by exact fun _ _ _ h => h) (Or.inl ⟨by rfl, ?h1⟩) (by assumption) ?r1
      case h1 => (intro w hSw; (try dsimp only at hSw); go_simp; try with_reducible rfl)
      try simp only [Act.put, List.setIfInBounds_toArray, List.set_cons_zero, List.set_cons_succ]
      refine wpAnyH_take (i := 1) (v := ?v2) (by simp only [List.getElem?_toArray, List.getElem?_cons_zero, List.getElem?_cons_succ]; rfl) (by kernel_rfl) (by kernel_rfl) (by kernel_rfl) (by exact fun _ _ _ h => h) (Or.inl ⟨by rfl, ?h2⟩) (by assumption) ?r2
      case h2 => (intro w hSw; (try dsimp only at hSw); go_simp; try with_reducible rfl)
      try simp only [Act.put, List.setIfInBounds_toArray, List.set_cons_zero, List.set_cons_succ]
      refine wpAnyH_take (i := 2) (v := ?v3) (by simp only [List.getElem?_toArray, List.getElem?_cons_zero, List.getElem?_cons_succ]; rfl) (by kernel_rfl) (by kernel_rfl) (by kernel_rfl) (by exact fun _ _ _ h => h) (Or.inl ⟨by rfl, ?h3⟩) (by assumption) ?r3
      case h3 => (intro w hSw; (try dsimp only at hSw); go_simp; try with_reducible rfl)
      try simp only [Act.put, List.setIfInBounds_toArray, List.set_cons_zero, List.set_cons_succ]
      refine wpAnyH_take (i := 3) (v := ?v4) (by simp only [List.getElem?_toArray, List.getElem?_cons_zero, List.getElem?_cons_succ]; rfl) (by kernel_rfl) (by kernel_rfl) (by kernel_rfl) (by exact fun _ _ _ h => h) (Or.inl ⟨by rfl, ?h4⟩) (by assumption) ?r4
      case h4 => (intro w hSw; (try dsimp only at hSw); go_simp; try with_reducible rfl)
      try simp only [Act.put, List.setIfInBounds_toArray, List.set_cons_zero, List.set_cons_succ]
      refine wpAnyH_take (i := 4) (v := ?v5) (by simp only [List.getElem?_toArray, List.getElem?_cons_zero, List.getElem?_cons_succ]; rfl) (by kernel_rfl) (by kernel_rfl) (by kernel_rfl) (by exact fun _ _ _ h => h) (Or.inl ⟨by rfl, ?h5⟩) (by assumption) ?r5
      case h5 => (intro w hSw; (try dsimp only at hSw); go_simp; try with_reducible rfl)
      try simp only [Act.put, List.setIfInBounds_toArray, List.set_cons_zero, List.set_cons_succ]
      refine wpAnyH_take (i := 5) (v := ?v6) (by simp only [List.getElem?_toArray, List.getElem?_cons_zero, List.getElem?_cons_succ]; rfl) (by kernel_rfl) (by kernel_rfl) (by kernel_rfl) (by exact fun _ _ _ h => h) (Or.inl ⟨by rfl, ?h6⟩) (by assumption) ?r6
      case h6 => (intro w hSw; (try dsimp only at hSw); go_simp; try with_reducible rfl)
      try simp only [Act.put, List.setIfInBounds_toArray, List.set_cons_zero, List.set_cons_succ]
      refine wpAnyH_take (i := 6) (v := ?v7) (by simp only [List.getElem?_toArray, List.getElem?_cons_zero, List.getElem?_cons_succ]; rfl) (by kernel_rfl) (by kernel_rfl) (by kernel_rfl) (by exact fun _ _ _ h => h) (Or.inl ⟨by rfl, ?h7⟩) (by assumption) ?r7
      case h7 => (intro w hSw; (try dsimp only at hSw); go_simp; try with_reducible rfl)
      try simp only [Act.put, List.setIfInBounds_toArray, List.set_cons_zero, List.set_cons_succ]
      refine wpAnyH_take (i := 7) (v := ?v8) (by simp only [List.getElem?_toArray, List.getElem?_cons_zero, List.getElem?_cons_succ]; rfl) (by kernel_rfl) (by kernel_rfl) (by kernel_rfl) (by exact fun _ _ _ h => h) (Or.inl ⟨by rfl, ?h8⟩) (by assumption) ?r8
      case h8 => (intro w hSw; (try dsimp only at hSw); go_simp; try with_reducible rfl)
      try simp only [Act.put, List.setIfInBounds_toArray, List.set_cons_zero, List.set_cons_succ]
      refine wpAnyH_take (i := 8) (v := ?v9) (by simp only [List.getElem?_toArray, List.getElem?_cons_zero, List.getElem?_cons_succ]; rfl) (by kernel_rfl) (by kernel_rfl) (by kernel_rfl) (by exact fun _ _ _ h => h) (Or.inl ⟨by rfl, ?h9⟩) (by assumption) ?r9
      case h9 => (intro w hSw; (try dsimp only at hSw); go_simp; try with_reducible rfl)
      try simp only [Act.put, List.setIfInBounds_toArray, List.set_cons_zero, List.set_cons_succ]
      refine wpAnyH_take (i := 9) (v := ?v10) (by simp only [List.getElem?_toArray, List.getElem?_cons_zero, List.getElem?_cons_succ]; rfl) (by kernel_rfl) (by kernel_rfl) (by kernel_rfl) (by exact fun _ _ _ h => h) (Or.inl ⟨by rfl, ?h10⟩) (by assumption) ?r10
      case h10 => (intro w hSw; (try dsimp only at hSw); go_simp; try with_reducible rfl)
      try simp only [Act.put, List.setIfInBounds_toArray, List.set_cons_zero, List.set_cons_succ]
      refine wpAnyH_take (i := 10) (v := ?v11) (by simp only [List.getElem?_toArray, List.getElem?_cons_zero, List.getElem?_cons_succ]; rfl) (by kernel_rfl) (by kernel_rfl) (by kernel_rfl) (by exact fun _ _ _ h => h) (Or.inl ⟨by rfl, ?h11⟩) (by assumption) ?r11
      case h11 => (intro w hSw; (try dsimp only at hSw); go_simp; try with_reducible rfl)
      try simp only [Act.put, List.setIfInBounds_toArray, List.set_cons_zero, List.set_cons_succ]
      refine wpAnyH_take (i := 11) (v := ?v12) (by simp only [List.getElem?_toArray, List.getElem?_cons_zero, List.getElem?_cons_succ]; rfl) (by kernel_rfl) (by kernel_rfl) (by kernel_rfl) (by exact fun _ _ _ h => h) (Or.inl ⟨by rfl, ?h12⟩) (by assumption) ?r12
      case h12 => (intro w hSw; (try dsimp only at hSw); go_simp; try with_reducible rfl)
      try simp only [Act.put, List.setIfInBounds_toArray, List.set_cons_zero, List.set_cons_succ]
      refine wpAnyH_take (i := 12) (v := ?v13) (by simp only [List.getElem?_toArray, List.getElem?_cons_zero, List.getElem?_cons_succ]; rfl) (by kernel_rfl) (by kernel_rfl) (by kernel_rfl) (by exact fun _ _ _ h => h) (Or.inl ⟨by rfl, ?h13⟩) (by assumption) ?r13
      case h13 => (intro w hSw; (try dsimp only at hSw); go_simp; try with_reducible rfl)
      try simp only [Act.put, List.setIfInBounds_toArray, List.set_cons_zero, List.set_cons_succ]
      refine wpAnyH_take (i := 13) (v := ?v14) (by simp only [List.getElem?_toArray, List.getElem?_cons_zero, List.getElem?_cons_succ]; rfl) (by kernel_rfl) (by kernel_rfl) (by kernel_rfl) (by exact fun _ _ _ h => h) (Or.inl ⟨by rfl, ?h14⟩) (by assumption) ?r14
      case h14 => (intro w hSw; (try dsimp only at hSw); go_simp; try with_reducible rfl)
      try simp only [Act.put, List.setIfInBounds_toArray, List.set_cons_zero, List.set_cons_succ]
      refine wpAnyH_ready (rs := [14]) (by kernel_rfl) (by simp) ?_
      refine (AllReadyH.cons (by simp only [List.getElem?_toArray, List.getElem?_cons_zero, List.getElem?_cons_succ]; rfl) (fun K hK => ?_) AllReadyH.nil)
      refine step_mapUpdate_im rfl (by rfl) _ _ _ _ (by rfl) 27 Tryz.underlying65 (x0 + 1 + 1) 41 (gone V left) (by rfl) (DK3.out.ext ((Ext.refl (fun _ => False) w3).drew) id) (by unfold maxLen; omega) x v (by rfl) (by rfl) ⟨hx1, hx2⟩ ?_
      intro wm15 IM15 GM15
      have XM15 : Ext (fun q => q = x0 + 2 ∨ q = x0 + 3) w3 wm15 := (((Ext.refl (fun q => q = x0 + 2 ∨ q = x0 + 3) w3).drew)).trans (Ext.of_grown GM15) (fun i _ h => by have h : some (x0 + 1 + 1) = some i := h; simp only [Option.some.injEq] at h; omega)
      refine hK.out _ _ (SB _ XM15) (fun hH16 => ?_)
      clear hK
      try simp only [Act.put, List.setIfInBounds_toArray, List.set_cons_zero, List.set_cons_succ]
      refine wpAnyH_ready (rs := [15]) (by kernel_rfl) (by simp) ?_
      refine (AllReadyH.cons (by simp only [List.getElem?_toArray, List.getElem?_cons_zero, List.getElem?_cons_succ]; rfl) (fun K hK => ?_) AllReadyH.nil)
      refine step_mapUpdate_im rfl (by rfl) _ _ _ _ (by rfl) 33 Tryz.underlying66 (x0 + 1 + 1 + 1) 41 (gone U left) (by rfl) ((TK3.out.ext ((Ext.refl (fun _ => False) w3).drew) id).ext (Ext.of_grown GM15) (by intro h; have h : some (x0 + 1 + 1) = some (x0 + 3) := h; simp only [Option.some.injEq] at h; omega)) (by unfold maxLen; omega) x u (by rfl) (by rfl) ⟨hx1, hx2⟩ ?_
      intro wm17 IM17 GM17
      have XM17 : Ext (fun q => q = x0 + 2 ∨ q = x0 + 3) w3 wm17 := (XM15).trans (Ext.of_grown GM17) (fun i _ h => by have h : some (x0 + 1 + 1 + 1) = some i := h; simp only [Option.some.injEq] at h; omega)
      refine hK.out _ _ (SB _ XM17) (fun hH18 => ?_)
      clear hK
      try simp only [Act.put, List.setIfInBounds_toArray, List.set_cons_zero, List.set_cons_succ]
      refine wpAnyH_done (by kernel_rfl) ?_ _
      have DF := hid (((IM15.small (H := 41) (fun k hk => KS1.out k hk)).congr (GD.out)).ext (Ext.of_grown GM17) (by intro h; have h : some (x0 + 1 + 1 + 1) = some (x0 + 2) := h; simp only [Option.some.injEq] at h; omega))
      have TF := hid ((IM17.small (H := 41) (fun k hk => KS2.out k hk)).congr (GT.out))
      have XF := hid (HXK.out.trans XM17 (fun i _ h => h))
      have RF := hid (HRG.out.ext XM17 (by omega) (by omega))
      clear IM15 IM17 GM15 GM17
      go_wp2_with fail
      go_roundw
      case measure => rw [RF.out.left_eq]; have := L3.out; rw [HRG.out.left_eq] at this; exact this
      case rel => exact ⟨cnt3, _, RF.out, DF, TF, XF⟩

end Go.Proofs.YtleoelhhndeheaaGreat

/- package vault: free tracks -/
open Go Go.RowKit
open Go.Maps (Keyed has)
namespace Go.Proofs.YtleoelhhndeheaaGreat

theorem freeFrom_succ (R : Rcs) (k : Nat) : freeFrom R (k + 1) 0 = freeFrom R k 0 ++ (if isUsed R (k : Int) = true then [] else [(k : Int)]) := by
  rw [freeFrom_app, Nat.zero_add]; rfl
theorem seen_small (s : List Int) (h : ∀ k ∈ s, 0 ≤ k ∧ k < 4200) : ∀ k, (seenM s k).isSome → 0 ≤ k ∧ k < (4200 : Nat) := fun k hk => by
  unfold seenM at hk
  split at hk
  · exact h k (by assumption)
  · cases hk
/-- those tracks whose records came already -/
def cameL (R : Rcs) (left : Int → Bool) (s : List Int) : Prop := ∀ k, k ∈ s ↔ k = 0 ∨ ∃ x, left x = false ∧ k ∈ R.trks x

set_option maxRecDepth 100000 in
set_option maxHeartbeats 4000000 in
theorem free_any {w : World} {D : Nat → Prop} {db tb : Nat} {R : Rcs} {H : Nat} (h : RecP w D db tb R) (ok : RcsOk R H) (h0 : 0 < H) (hH : H ≤ 4096) (n : Nat) (hn : n + R.used ≤ H) :
    Calls Tryz.prog 42 #[.agg #[.map (some db), .map (some tb)], .int .i64 (n : Int)] w fun e w' => ∃ v, e = .returned v ∧ w'.ownsRow w.heap.size 3 1 v n (I8 (R.freeL n)) ∧ Below w.heap.size w w' := by
  obtain ⟨V, U, hv, hu, hx⟩ := h.out
  have HX := hid hx
  have OK := hid ok
  have HU := hid hu
  have lt := hu.lt
  have FL := hid (free_length ok h0)
  have hfn : n ≤ (freeFrom R H 0).length := by rw [free_length ok h0]; omega
  have HFN := hid hfn
  have hn' : n ≤ 4096 := by omega
  clear hv hu hx h ok hfn hn
  have hmm := @run_makeMap Tryz.prog
  obtain ⟨i0, hi, hz0, hz1, hz2⟩ := info_parts iI
  obtain ⟨W1, hW1⟩ : ∃ W1, (w.alloc (.cells #[.map (some db), .map (some tb)] 68)) = W1 := ⟨_, rfl⟩
  have BW1 : Below w.heap.size w W1 := by rw [← hW1]; exact (Below.refl _ w).alloc (Nat.le_refl _) _
  obtain ⟨x0, hx0⟩ : ∃ x0, w.heap.size = x0 := ⟨_, rfl⟩
  have sW1 : W1.heap.size = x0 + 1 := by rw [← hW1, ← hx0]; simp
  have y1 : W1.cell? ⟨x0, 1, none⟩ = some (.map (some tb)) := by rw [← hW1, ← hx0]; exact blk_cell (blk_new _ _) rfl
  have Y1 := hid y1
  have m0 : IMap (W1.alloc (.map #[] 0)) (x0 + 1) 0 (fun _ => none) := by have := IMap.made W1; rwa [sW1] at this
  clear y1
  go_enter Tryz.func42, Tryz.ntmps42
  go_wp2_with (first | (refine wpList_insert_im rfl _ rfl _ _ _ 116 rfl 4 Tryz.underlying116 (x0 + 1) 0 (fun _ => none) rfl m0 (by unfold maxLen; omega) 0 (.bool true) rfl rfl (by omega) ?_) | fail)
  intro w2 M2 G2
  have X2 : Ext (fun q => q = x0 + 1) (W1.alloc (.map #[] 0)) w2 := (Ext.of_grown G2).mono (fun i _ h => by have h : some (x0 + 1) = some i := h; simp only [Option.some.injEq] at h; omega)
  have B2 : Below w.heap.size w w2 := Below.ext (BW1.alloc (by omega) _) X2 (fun i h => by omega) (by simp; omega)
  have M2' := hid (((M2.small (H := 4200) (fun k hk => by
    by_cases e : k = 0
    · omega
    · rw [if_neg e] at hk; cases hk)).congr (T' := seenM [0]) (fun k => by unfold seenM; by_cases e : k = 0 <;> simp [e])))
  have y2 : w2.cell? ⟨x0, 1, none⟩ = some (.map (some tb)) := X2.cell (by omega) (cell_alloc _ Y1.out)
  obtain ⟨r, hr⟩ : ∃ r, w2.heap.size = r := ⟨_, rfl⟩
  have hr2 : x0 + 2 ≤ r := by have := X2.size; simp at this; omega
  have HM2 := M2'
  clear M2 G2 M2'
  go_wp2_with (first | (at_range; refine wpList_range_im rfl _ rfl _ _ rfl 33 Tryz.underlying66 tb 41 U rfl (HU.out.below B2 (Nat.le_refl _)) ?_) | fail)
  intro w0 cnt RG B0 hs0
  have X0 : Ext (fun q => q = x0 + 1) w2 w0 := Ext.of_below (by rw [hr]; exact B0) _
  have M0 := hid (HM2.out.below B0 (Nat.le_of_eq hr))
  have LT := hid lt
  have C0 := hid (show cameL R (fun x => (U x).isSome) [0] from fun k => by
    constructor
    · intro h; exact .inl (by simpa using h)
    · rintro (h | ⟨x, h1, h2⟩)
      · simp [h]
      · exfalso
        rcases HX.out x with ⟨e, -, -⟩ | ⟨b, l, v, u, -, -, e, -⟩
        · rw [trks_none e] at h2; cases h2
        · simp [e] at h1)
  have HX0 := hid X0
  have HB2 := hid B2
  have HR := hid hr2
  have HX00 := hid hx0
  have HRR := hid hr
  clear B0 hs0 X0 X2 HM2 y2 m0 BW1 hr hW1
  go_wp2_with fail
  go_loopw [7] (fun _ wr => ∃ (cnt : Nat) (left : Int → Bool) (s : List Int), IRng wr tb r 41 U left cnt ∧ Hid (IMap wr (x0 + 1) 4200 (seenM s)) ∧ Hid (cameL R left s) ∧ Hid (Ext (fun q => q = x0 + 1) w2 wr)) (fun _ wr => wr.rangeLeft tb r)
  case atStart => exact ⟨_, _, _, RG, M0, C0, HX0⟩
  case round =>
    obtain ⟨wo, rfl⟩ : ∃ w', w' = wr := ⟨_, rfl⟩
    obtain ⟨cnt2, left, s, RGk, MK, CK, XK⟩ := hrel
    go_wp2_with (first | (at_next; refine wpList_next_im rfl _ rfl _ rfl tb r 41 U left cnt2 rfl RGk ?_ ?_) | fail)
    · intro hl
      have HL := hid hl
      clear hl
      have MS := hid (show ∀ k : Nat, (seenM s (k : Int)).getD (.bool false) = .bool (isUsed R (k : Int)) from fun k => by
        have h1 : ((k : Int) ∈ s) ↔ isUsed R (k : Int) = true := by
          rw [CK.out, isUsed_iff]
          unfold usedL
          rw [List.mem_cons, List.mem_flatMap]
          constructor
          · rintro (h | ⟨x, -, h⟩)
            · exact .inl h
            · exact .inr ⟨x, trks_id OK.out h, h⟩
          · rintro (h | ⟨x, -, h⟩)
            · exact .inl h
            · exact .inr ⟨x, HL.out x, h⟩
        unfold seenM
        by_cases e : (k : Int) ∈ s
        · rw [if_pos e, h1.1 e]; rfl
        · rw [if_neg e]
          have : isUsed R (k : Int) = false := by
            cases hu : isUsed R (k : Int) with
            | true => exact absurd (h1.2 hu) e
            | false => rfl
          rw [this]; rfl)
      have BR : Below w.heap.size w wo := Below.ext HB2.out XK.out (fun i h => by have := HX00.out; omega) HB2.out.size
      have BRH := hid BR
      have SR := hid BR.size
      clear BR RGk
      go_wp2_with fail
      go_loopw [10, 11] (fun u v wr2 => ∃ (k m : Nat) (o : Value), o = u ∧ v = .int .i64 k ∧ k ≤ H ∧ m ≤ n ∧ Hid (wr2.ownsRow wo.heap.size 3 1 o m (I8 (freeFrom R k 0))) ∧ Hid (Below wo.heap.size wo wr2)) (fun _ v _ => H - (intOf v).toNat)
      case atStart => exact ⟨0, 0, _, rfl, rfl, Nat.zero_le _, Nat.zero_le _, hid (World.ownsRow_nil _ _ _ _), hid (Below.refl _ _)⟩
      case round =>
        obtain ⟨k, m, o, rfl, rfl, hk, hm, OW, BK⟩ := hrel
        obtain ⟨oa, oc, rfl⟩ := owns_slice OW.out
        have hlen : (freeFrom R k 0).length = m := by have := OW.out.1; rw [I8_length] at this; omega
        have BF : Below w.heap.size w wr := BRH.out.trans (BK.out.mono SR.out)
        have hu0 : freeFrom R (k + 1) 0 = _ := freeFrom_succ R k
        have HU0 := hid hu0
        have HLEN := hid hlen
        clear hu0 hlen
        by_cases hmn : m < n
        · have hkH : k < H := by
            rcases Nat.lt_or_ge k H with h | h
            · exact h
            · obtain rfl : k = H := by omega
              have := HLEN.out
              have := HFN.out
              omega
          have lk := ((MK.out.below BK.out (Nat.le_refl _)).look Tryz.underlying116 (zB wr) (x := (k : Int)) (by omega))
          rw [MS.out] at lk
          cases hu : isUsed R (k : Int) with
          | true =>
            rw [hu] at lk
            have HE := hid (show freeFrom R (k + 1) 0 = freeFrom R k 0 by rw [HU0.out, hu]; simp)
            clear hu
            go_wp2_with fail
            go_roundw
            case measure => simp [intOf]; omega
            case rel => exact ⟨k + 1, m, _, rfl, by go_num, by omega, by omega, by rw [HE.out]; exact OW, BK⟩
          | false =>
            rw [hu] at lk
            have HE := hid (show freeFrom R (k + 1) 0 = freeFrom R k 0 ++ [(k : Int)] by rw [HU0.out, hu]; simp)
            clear hu
            have hbs : wo.heap.size ≤ (wr.alloc (.cells #[.int .i64 (k : Int)] 3)).heap.size := by have := BK.out.size; simp; omega
            go_wp2_with (first | (at_builtin; refine wpList_append_row (P := Tryz.prog) rfl _ _ 33 rfl wo.heap.size 3 i0 (.int .i64 0) Tryz.underlying33 hi hz0 hz1 (by omega) rfl _ m _ rfl (OW.out.alloc _) (some ⟨wr.heap.size, 0, none⟩) 1 1 [.int .i64 (k : Int)] rfl (row_at _ _ _ rfl) rfl (fun h => by cases h) (fun u hu => by simp at hu; subst hu; rfl) ?c4 ?c5 ?_) | fail)
            case c4 => omega
            case c5 => exact hbs
            intro v' w4 o4 B4 _
            go_wp2_with fail
            go_roundw
            case measure => simp [intOf]; omega
            case rel =>
              refine ⟨k + 1, m + 1, v', rfl, by go_num, by omega, by omega, hid ?_, hid ((BK.out.alloc BK.out.size _).trans B4)⟩
              rw [HE.out, I8, List.map_append]
              simpa using o4
        · obtain rfl : m = n := by omega
          have HF := hid (show R.freeL m = freeFrom R k 0 by
            unfold Rcs.freeL
            rw [show 4200 = k + (4200 - k) by omega, freeFrom_app, List.take_append_of_le_length (by have := HLEN.out; omega), List.take_of_length_le (by have := HLEN.out; omega)])
          go_wp2_with fail
          go_ret
          refine ⟨_, rfl, ?_, BF⟩
          rw [HF.out]
          exact owns_mono OW.out SR.out
    · intro x v w3 cnt3 hT hleft hx1 hx2 RG3 hlt X3 hen
      have L3 := hid (show w3.rangeLeft tb r < wo.rangeLeft tb r by rw [RG3.left_eq, RGk.left_eq]; exact hlt)
      have XK3 : Ext (fun q => q = x0 + 1) w2 w3 := XK.out.trans X3 (fun i hi h => by have := HRR.out; omega)
      have B3 : Below w.heap.size w w3 := Below.ext HB2.out XK3 (fun i h => by have := HX00.out; omega) HB2.out.size
      obtain ⟨b, l, u, e1, e2, e3⟩ : ∃ b l u, R x = some (b, l) ∧ v = u ∧ Hld w D u (I8 l) := by
        rcases HX.out x with ⟨-, -, e⟩ | ⟨b, l, _, u, e1, -, e3, -, e5⟩
        · rw [e] at hT; cases hT
        · rw [e3] at hT; cases hT; exact ⟨b, l, _, e1, rfl, e5⟩
      subst e2
      obtain ⟨a, c, e4, hrow, -, -, -, -⟩ := e3.out
      obtain ⟨m, hm⟩ : ∃ m, l.length = m := ⟨_, rfl⟩
      rw [I8_length, hm] at e4
      subst e4
      have hml : m ≤ 4096 := by
        have h1 := OK.out.nd x _ e1
        have h2 := nodup_lt_int H l h1 (fun k hk => by have := OK.out.tr x _ e1 k hk; omega)
        omega
      have TR := hid (fun k (hk : k ∈ l) => OK.out.tr x _ e1 k hk)
      have ROW := hid hrow
      have HMM := hid hm
      have E1 := hid e1
      have M3 := hid (MK.out.ext X3 (by have := HR.out; omega))
      have HRG := hid RG3
      have SB := hid (show ∀ k ∈ s, 0 ≤ k ∧ k < 4096 from fun k hk => by
        rcases (CK.out k).1 hk with h | ⟨y, -, hy⟩
        · omega
        · have := trks_tr OK.out hy; omega)
      have HX3 := hid XK3
      have HL3 := hid hleft
      have B3H := hid B3
      have hix := fun k (hk : k < m) => idx_at1 (P := Tryz.prog) (T := 33) Tryz.underlying33 szI (cap := c) (a := a) (fun _ => hrow.nn (by rw [I8_length, hm]; omega)) hk
      clear hT hleft hlt e1 e3 hm hrow X3 RG3 XK3 B3 RGk
      go_wp2_with fail
      go_loopw [23] (fun v wr => ∃ j : Nat, v = .int .i64 j ∧ j ≤ m ∧ Hid (IMap wr (x0 + 1) 4200 (seenM ((l.take j).reverse ++ s))) ∧ Hid (Ext (fun q => q = x0 + 1) w3 wr)) (fun v _ => m - (intOf v).toNat)
      case atStart => exact ⟨0, rfl, Nat.zero_le _, by simpa using M3, hid (Ext.refl _ _)⟩
      case round =>
        obtain ⟨j, rfl, hj, MJ, XJ⟩ := hrel
        by_cases hjm : j < m
        · have hixj := hix j hjm
          have hl : j < l.length := by rw [HMM.out]; exact hjm
          obtain ⟨y, hy⟩ : ∃ y, l[j]? = some y := ⟨_, List.getElem?_eq_getElem hl⟩
          have cy : wr.cell? ⟨sB a, sO a + j, none⟩ = some (.int .i64 y) := by
            have hB := Below.ext B3H.out XJ.out (fun i h => by have := HX00.out; omega) B3H.out.size
            have := (ROW.out.below hB (Nat.le_refl _)).cell j (.int .i64 y) (by rw [I8, List.getElem?_map, hy]; rfl)
            exact this
          have hyb := TR.out y (List.mem_of_getElem? hy)
          have HT := hid (show (l.take (j + 1)).reverse ++ s = y :: ((l.take j).reverse ++ s) by rw [List.take_add_one, hy]; simp)
          clear hy
          go_wp2_with (first | (at_mapUpdate; refine wpList_mapUpdate_im rfl _ rfl _ _ _ 116 rfl 4 Tryz.underlying116 (x0 + 1) 4200 _ rfl MJ.out (by unfold maxLen; omega) y (.bool true) rfl rfl (by omega) ?_) | fail)
          intro w4 M4 G4
          rw [seenM_cons, ← HT.out] at M4
          have X4 : Ext (fun q => q = x0 + 1) w3 w4 := XJ.out.trans (Ext.of_grown G4) (fun i _ h => by have h : some (x0 + 1) = some i := h; simp only [Option.some.injEq] at h; omega)
          have M4' := hid (M4.small (H := 4200) (seen_small _ (fun k hk => by
            rcases List.mem_append.1 hk with h | h
            · have := TR.out k (List.mem_of_mem_take (List.mem_reverse.1 h)); omega
            · have := SB.out k h; omega)))
          clear M4 G4
          go_wp2_with fail
          go_roundw
          case measure => simp [intOf]; omega
          case rel => exact ⟨j + 1, by go_num, by omega, M4', hid X4⟩
        · obtain rfl : j = m := by omega
          have RGJ := hid (HRG.out.ext XJ.out (by have := HX00.out; have := LT.out; omega) (by have := HR.out; omega))
          go_wp2_with fail
          go_roundw
          case measure => rw [RGJ.out.left_eq, ← HRG.out.left_eq]; exact L3.out
          case rel =>
            refine ⟨cnt3, _, _, RGJ.out, MJ, hid (fun k => ?_), hid (HX3.out.trans XJ.out (fun i _ h => h))⟩
            rw [List.take_of_length_le (Nat.le_of_eq HMM.out), List.mem_append, List.mem_reverse, CK.out k]
            have et := trks_of E1.out
            constructor
            · rintro (h | h | ⟨z, h1, h2⟩)
              · exact .inr ⟨x, by simp, by rw [et]; exact h⟩
              · exact .inl h
              · exact .inr ⟨z, by simp [h1], h2⟩
            · rintro (h | ⟨z, h1, h2⟩)
              · exact .inr (.inl h)
              · by_cases e : z = x
                · subst e; rw [et] at h2; exact .inl h2
                · exact .inr (.inr ⟨z, by simpa [e] using h1, h2⟩)

end Go.Proofs.YtleoelhhndeheaaGreat

/- package vault: the list's track -/
open Go Go.RowKit
open Go.Maps (Keyed has)
namespace Go.Proofs.YtleoelhhndeheaaGreat

theorem ids40_j {j : Nat} (h : j < 40) : ids40[j]? = some ((j : Int) + 1) := by
  have := ids40_get (i := (j : Int) + 1) (by omega)
  rwa [show ((j : Int) + 1 - 1).toNat = j by omega] at this
def listU (R : Rcs) (j : Nat) : List Int := (ids40.take j).flatMap fun i => lay2 ((R.trks i).headD 0)
theorem listU_succ (R : Rcs) {j : Nat} (h : j < 40) : listU R (j + 1) = listU R j ++ lay2 ((R.trks ((j : Int) + 1)).headD 0) := by
  unfold listU
  rw [List.take_add_one, ids40_j h]
  simp
theorem listU_length (R : Rcs) {j : Nat} (h : j ≤ 40) : (listU R j).length = 2 * j := by
  unfold listU
  rw [flat2_length _ (fun _ => rfl), List.length_take]
  have : ids40.length = 40 := rfl
  omega
theorem listU_bytes (R : Rcs) (j : Nat) : IsBytes (listU R j) := by
  intro n hn
  obtain ⟨i, -, hi⟩ := List.mem_flatMap.1 hn
  exact lay2_bytes _ n hi

set_option maxRecDepth 100000 in
set_option maxHeartbeats 4000000 in
theorem listed_gen {w : World} {D : Nat → Prop} {dv tv : Value} {R : Rcs} (hlk : ∀ x : Int, 1 ≤ x ∧ x ≤ 40 → ∃ u, (∀ W, Below w.heap.size w W → (Instr.lookup 66 tv (.int .i64 x) false).run Tryz.prog W = .ok u W) ∧ Hld w D u (I8 (R.trks x)))
    (hb : ∀ x, ∀ k ∈ R.trks x, 0 ≤ k ∧ k < 65536) :
    Calls Tryz.prog 62 #[.agg #[dv, tv]] w fun e w' => ∃ v, e = .returned v ∧ w'.ownsRow w.heap.size 5 1 v 96 (B8 (listT R)) ∧ Below w.heap.size w w' := by
  obtain ⟨i0, hi, hz0, hz1, hz2⟩ := info_parts iB
  have HLK := hid hlk
  have HB := hid hb
  obtain ⟨W1, hW1⟩ : ∃ W1, (w.alloc (.cells #[dv, tv] 68)) = W1 := ⟨_, rfl⟩
  have BW1 : Below w.heap.size w W1 := by rw [← hW1]; exact (Below.refl _ w).alloc (Nat.le_refl _) _
  have y1 : W1.cell? ⟨w.heap.size, 1, none⟩ = some tv := by rw [← hW1]; exact blk_cell (blk_new _ _) rfl
  have sW1 : W1.heap.size = w.heap.size + 1 := by rw [← hW1]; simp
  obtain ⟨x0, hx0⟩ : ∃ x0, w.heap.size = x0 := ⟨_, rfl⟩
  rw [hx0] at y1 sW1
  have HX0 := hid hx0
  have HBW := hid BW1
  have SW1 := hid sW1
  clear hlk hb BW1 sW1
  go_enter Tryz.func62, Tryz.ntmps62
  go_wp2_with fail
  go_loopw [3, 4] (fun u v wr => ∃ (j : Nat) (o : Value), o = u ∧ v = .int .i64 ((j : Int) + 1) ∧ j ≤ 40 ∧ Hid (wr.ownsRow W1.heap.size 5 1 o (2 * j) (B8 (listU R j))) ∧ Hid (Below W1.heap.size W1 wr)) (fun _ v _ => 42 - (intOf v).toNat)
  case atStart => exact ⟨0, _, rfl, rfl, Nat.zero_le _, hid (World.ownsRow_nil _ _ _ _), hid (Below.refl _ _)⟩
  case round =>
    obtain ⟨j, o, rfl, rfl, hj, OW, BK⟩ := hrel
    obtain ⟨oa, oc, rfl⟩ := owns_slice OW.out
    have BF : Below w.heap.size w wr := HBW.out.trans (BK.out.mono HBW.out.size)
    by_cases hj40 : j < 40
    · obtain ⟨u, lk, hh⟩ := HLK.out ((j : Int) + 1) (by omega)
      have c1 : wr.cell? ⟨x0, 1, none⟩ = some tv := Below.cellAt BK.out (by have := SW1.out; omega) y1
      have lkr := lk wr BF
      obtain ⟨a, c, rfl, hrow, -, -, hn, -⟩ := hh.out
      obtain ⟨l, hl⟩ : ∃ l, R.trks ((j : Int) + 1) = l := ⟨_, rfl⟩
      have hbl := HB.out ((j : Int) + 1)
      rw [hl] at hrow lkr hbl
      have HU := hid (listU_succ R hj40)
      have LU := hid (listU_length R hj)
      rw [hl] at HU
      have hrow := hrow.below BF (Nat.le_refl _)
      clear lk hh hn hl
      cases l with
      | nil =>
        go_wp2_with fail
        refine (vlaid_any 0 _ (by omega)).mono ?_
        rintro e w2 ⟨rfl, rfl⟩
        go_wp2_with (first | (at_builtin; refine wpList_append_row (P := Tryz.prog) rfl _ _ 27 rfl W1.heap.size 5 i0 (.int .u8 0) Tryz.underlying27 hi hz0 hz1 (by omega) rfl _ (2 * j) _ rfl (OW.out.alloc _) (some ⟨wr.heap.size, 0, none⟩) 2 2 (B8 (lay2 0)) rfl (row_at _ _ _ rfl) rfl (fun h => by cases h) (B8_one _) ?c4 ?c5 ?_) | fail)
        case c4 => omega
        case c5 => have := BK.out.size; simp; omega
        intro v' w4 o4 B4 _
        go_wp2_with fail
        go_roundw
        case measure => simp [intOf]; omega
        case rel =>
          refine ⟨j + 1, v', rfl, by go_num, by omega, hid ?_, hid ((BK.out.alloc BK.out.size _).trans B4)⟩
          rw [HU.out, B8, List.map_append]
          exact o4
      | cons k r =>
        have hk := hbl k (by simp)
        have i1 : ∀ W', (Instr.indexAt 33 (.slice a (r.length + 1) c) (.int .i64 0)).run Tryz.prog W' = .ok (.pointer (some ⟨sB a, sO a, none⟩)) W' := idx_at1 (P := Tryz.prog) (T := 33) Tryz.underlying33 szI (cap := c) (fun _ => hrow.nn (by simp)) (show 0 < r.length + 1 by omega)
        have ck : wr.cell? ⟨sB a, sO a, none⟩ = some (.int .i64 k) := hrow.cell 0 _ rfl
        rw [I8_length, List.length_cons] at lkr
        obtain ⟨m, hm⟩ : ∃ m, r.length + 1 = m := ⟨_, rfl⟩
        have hm0 : 0 < m := by omega
        rw [hm] at lkr i1
        clear hm hrow
        go_wp2_with fail
        refine (vlaid_any k _ (by omega)).mono ?_
        rintro e w2 ⟨rfl, rfl⟩
        go_wp2_with (first | (at_builtin; refine wpList_append_row (P := Tryz.prog) rfl _ _ 27 rfl W1.heap.size 5 i0 (.int .u8 0) Tryz.underlying27 hi hz0 hz1 (by omega) rfl _ (2 * j) _ rfl (OW.out.alloc _) (some ⟨wr.heap.size, 0, none⟩) 2 2 (B8 (lay2 k)) rfl (row_at _ _ _ rfl) rfl (fun h => by cases h) (B8_one _) ?c4 ?c5 ?_) | fail)
        case c4 => omega
        case c5 => have := BK.out.size; simp; omega
        intro v' w4 o4 B4 _
        go_wp2_with fail
        go_roundw
        case measure => simp [intOf]; omega
        case rel =>
          refine ⟨j + 1, v', rfl, by go_num, by omega, hid ?_, hid ((BK.out.alloc BK.out.size _).trans B4)⟩
          rw [HU.out, B8, List.map_append]
          exact o4
    · obtain rfl : j = 40 := by omega
      obtain ⟨a', c', e1, hl, -, -, hrow, -, hn⟩ := row_of_owns OW.out
      cases e1
      have CL := vclosed_any oa 80 oc (listU R 40) wr hrow (listU_length R (Nat.le_refl _)) (fun h => absurd (hn h) (by omega)) (by omega) (listU_bytes R 40)
      have HL := hid (show listU R 40 = listB R from rfl)
      clear hrow hl hn
      go_wp2_with fail
      refine CL.mono ?_
      rintro e w5 ⟨v, rfl, o5, B5⟩
      go_wp2_with fail
      go_ret
      exact ⟨_, rfl, owns_mono o5 BF.size, BF.trans (B5.mono BF.size)⟩

theorem RecP.lookT {w : World} {D : Nat → Prop} {db tb : Nat} {R : Rcs} (h : RecP w D db tb R) (x : Int) (hx : -9223372036854775808 ≤ x ∧ x ≤ 9223372036854775807) : ∃ u, (∀ W, Below w.heap.size w W → (Instr.lookup 66 (.map (some tb)) (.int .i64 x) false).run Tryz.prog W = .ok u W) ∧ Hld w D u (I8 (R.trks x)) := by
  obtain ⟨V, U, hv, hu, hx'⟩ := h.out
  rcases hx' x with ⟨e1, -, e3⟩ | ⟨b, l, v, u, e1, -, e3, -, e5⟩
  · refine ⟨.slice none 0 0, fun W k => ?_, by rw [trks_none e1]; exact ⟨none, 0, rfl, Row.nil _ _, Nat.le_refl _, Nat.zero_le _, fun _ => ⟨rfl, rfl⟩, fun h => by simp at h⟩⟩
    have := (hu.below k (Nat.le_refl _)).look Tryz.underlying66 (zI' W) hx
    rwa [e3] at this
  · refine ⟨u, fun W k => ?_, by rw [trks_of e1]; exact e5⟩
    have := (hu.below k (Nat.le_refl _)).look Tryz.underlying66 (zI' W) hx
    rwa [e3] at this
theorem RecP.lookD {w : World} {D : Nat → Prop} {db tb : Nat} {R : Rcs} (h : RecP w D db tb R) (x : Int) (hx : -9223372036854775808 ≤ x ∧ x ≤ 9223372036854775807) : ∃ v, (∀ W, Below w.heap.size w W → (Instr.lookup 65 (.map (some db)) (.int .i64 x) false).run Tryz.prog W = .ok v W) ∧ (∀ W, Below w.heap.size w W → (Instr.lookup 65 (.map (some db)) (.int .i64 x) true).run Tryz.prog W = .ok (.tuple #[v, .bool (R x).isSome]) W) ∧ Hld w D v (B8 (R.bytes x)) := by
  obtain ⟨V, U, hv, hu, hx'⟩ := h.out
  rcases hx' x with ⟨e1, e3, -⟩ | ⟨b, l, v, u, e1, e3, -, e5, -⟩
  · refine ⟨.slice none 0 0, fun W k => ?_, fun W k => ?_, by unfold Rcs.bytes; rw [e1]; exact ⟨none, 0, rfl, Row.nil _ _, Nat.le_refl _, Nat.zero_le _, fun _ => ⟨rfl, rfl⟩, fun h => by simp at h⟩⟩
    · have := (hv.below k (Nat.le_refl _)).look Tryz.underlying65 (zP W) hx
      rwa [e3] at this
    · have := (hv.below k (Nat.le_refl _)).look_ok Tryz.underlying65 (zP W) hx
      rw [e3] at this
      rw [e1]
      exact this
  · refine ⟨v, fun W k => ?_, fun W k => ?_, by rw [bytes_of e1]; exact e5⟩
    · have := (hv.below k (Nat.le_refl _)).look Tryz.underlying65 (zP W) hx
      rwa [e3] at this
    · have := (hv.below k (Nat.le_refl _)).look_ok Tryz.underlying65 (zP W) hx
      rw [e3] at this
      rw [e1]
      exact this

theorem listed_any {w : World} {D : Nat → Prop} {db tb : Nat} {R : Rcs} {H : Nat} (h : RecP w D db tb R) (ok : RcsOk R H) (hH : H ≤ 4096) :
    Calls Tryz.prog 62 #[.agg #[.map (some db), .map (some tb)]] w fun e w' => ∃ v, e = .returned v ∧ w'.ownsRow w.heap.size 5 1 v 96 (B8 (listT R)) ∧ Below w.heap.size w w' :=
  listed_gen (D := D) (fun x hx => h.lookT x (by omega)) (fun x k hk => by have := trks_tr ok hk; omega)
theorem listed_none (w : World) :
    Calls Tryz.prog 62 #[.agg #[.map none, .map none]] w fun e w' => ∃ v, e = .returned v ∧ w'.ownsRow w.heap.size 5 1 v 96 (B8 (listT noRcs)) ∧ Below w.heap.size w w' :=
  listed_gen (D := fun _ => False) (R := noRcs) (fun x hx => ⟨.slice none 0 0, fun W _ => by kernel_rfl, ⟨none, 0, rfl, Row.nil _ _, Nat.le_refl _, Nat.zero_le _, fun _ => ⟨rfl, rfl⟩, fun h => by simp [Rcs.trks, noRcs] at h⟩⟩) (fun x k hk => by simp [Rcs.trks, noRcs] at hk)

end Go.Proofs.YtleoelhhndeheaaGreat
