/- package ledger on a drum, said plainly -/
import Derived.Test.YtleoelhhndeheaaGreatLedP
import Derived.Test.YtleoelhhndeheaaGreatKnown4
open Go Go.RowKit
namespace Go.Proofs.YtleoelhhndeheaaGreat

/-- lay, one behind the other, till one does not go -/
def DS.lays (s : DS) : List (Int × List Int) → Int × DS
  | [] => (0, s)
  | x :: r => if s.layCode x.1 x.2 = 0 then (s.lay x.1 x.2).lays r else (s.layCode x.1 x.2, s.lay x.1 x.2)
/-- how many of them went -/
def DS.laysN (s : DS) : List (Int × List Int) → Nat
  | [] => 0
  | x :: r => if s.layCode x.1 x.2 = 0 then (s.lay x.1 x.2).laysN r + 1 else 0
theorem DS.lays_snoc (s : DS) (l : List (Int × List Int)) (x : Int × List Int) (h : (s.lays l).1 = 0) : s.lays (l ++ [x]) = ((s.lays l).2.layCode x.1 x.2, (s.lays l).2.lay x.1 x.2) := by
  induction l generalizing s with
  | nil =>
    show (if s.layCode x.1 x.2 = 0 then (0, s.lay x.1 x.2) else (s.layCode x.1 x.2, s.lay x.1 x.2)) = _
    by_cases e : s.layCode x.1 x.2 = 0
    · rw [if_pos e]; show _ = (s.layCode x.1 x.2, _); rw [e]; rfl
    · rw [if_neg e]; rfl
  | cons y l ih =>
    have hl : ∀ r, s.lays (y :: r) = if s.layCode y.1 y.2 = 0 then (s.lay y.1 y.2).lays r else (s.layCode y.1 y.2, s.lay y.1 y.2) := fun _ => rfl
    rw [hl] at h
    rw [List.cons_append, hl, hl]
    by_cases e : s.layCode y.1 y.2 = 0
    · rw [if_pos e] at h ⊢; rw [if_pos e]; exact ih _ h
    · rw [if_neg e] at h; exact absurd h e
theorem DS.lays_stop (s : DS) (l r : List (Int × List Int)) (h : (s.lays l).1 ≠ 0) : s.lays (l ++ r) = s.lays l := by
  induction l generalizing s with
  | nil => exact absurd rfl h
  | cons y l ih =>
    have hl : ∀ r, s.lays (y :: r) = if s.layCode y.1 y.2 = 0 then (s.lay y.1 y.2).lays r else (s.layCode y.1 y.2, s.lay y.1 y.2) := fun _ => rfl
    rw [hl] at h
    rw [List.cons_append, hl, hl]
    by_cases e : s.layCode y.1 y.2 = 0
    · rw [if_pos e] at h ⊢; rw [if_pos e]; exact ih _ h
    · rw [if_neg e, if_neg e]
theorem DS.laysN_snoc (s : DS) (l : List (Int × List Int)) (x : Int × List Int) (h : (s.lays l).1 = 0) : s.laysN (l ++ [x]) = l.length + (if (s.lays l).2.layCode x.1 x.2 = 0 then 1 else 0) := by
  induction l generalizing s with
  | nil => show (if s.layCode x.1 x.2 = 0 then 0 + 1 else 0) = 0 + (if s.layCode x.1 x.2 = 0 then 1 else 0); rw [Nat.zero_add, Nat.zero_add]
  | cons y l ih =>
    have hl : ∀ r, s.lays (y :: r) = if s.layCode y.1 y.2 = 0 then (s.lay y.1 y.2).lays r else (s.layCode y.1 y.2, s.lay y.1 y.2) := fun _ => rfl
    have hn : ∀ r, s.laysN (y :: r) = if s.layCode y.1 y.2 = 0 then (s.lay y.1 y.2).laysN r + 1 else 0 := fun _ => rfl
    rw [hl] at h
    rw [List.cons_append, hl, hn]
    by_cases e : s.layCode y.1 y.2 = 0
    · rw [if_pos e] at h ⊢
      rw [if_pos e, ih _ h, List.length_cons]
      omega
    · rw [if_neg e] at h; exact absurd h e
theorem DS.laysN_stop (s : DS) (l r : List (Int × List Int)) (h : (s.lays l).1 ≠ 0) : s.laysN (l ++ r) = s.laysN l := by
  induction l generalizing s with
  | nil => exact absurd rfl h
  | cons y l ih =>
    have hl : ∀ r, s.lays (y :: r) = if s.layCode y.1 y.2 = 0 then (s.lay y.1 y.2).lays r else (s.layCode y.1 y.2, s.lay y.1 y.2) := fun _ => rfl
    have hn : ∀ r, s.laysN (y :: r) = if s.layCode y.1 y.2 = 0 then (s.lay y.1 y.2).laysN r + 1 else 0 := fun _ => rfl
    rw [hl] at h
    rw [List.cons_append, hn, hn]
    by_cases e : s.layCode y.1 y.2 = 0
    · rw [if_pos e] at h ⊢; rw [if_pos e, ih _ h]
    · rw [if_neg e, if_neg e]
theorem DS.laysN_all (s : DS) (l : List (Int × List Int)) (h : (s.lays l).1 = 0) : s.laysN l = l.length := by
  induction l generalizing s with
  | nil => rfl
  | cons y l ih =>
    have hl : ∀ r, s.lays (y :: r) = if s.layCode y.1 y.2 = 0 then (s.lay y.1 y.2).lays r else (s.layCode y.1 y.2, s.lay y.1 y.2) := fun _ => rfl
    have hn : ∀ r, s.laysN (y :: r) = if s.layCode y.1 y.2 = 0 then (s.lay y.1 y.2).laysN r + 1 else 0 := fun _ => rfl
    rw [hl] at h
    rw [hn]
    by_cases e : s.layCode y.1 y.2 = 0
    · rw [if_pos e] at h ⊢; rw [ih _ h]; rfl
    · rw [if_neg e] at h; exact absurd h e

theorem DS.turn_n' (s : DS) : s.turn.n = s.n ∧ s.turn.up = s.up ∧ s.turn.now = s.now ∧ s.turn.kept = s.kept := by
  unfold DS.turn
  split
  · exact ⟨rfl, rfl, rfl, rfl⟩
  · split <;> exact ⟨rfl, rfl, rfl, rfl⟩
  · split <;> exact ⟨rfl, rfl, rfl, rfl⟩
theorem DS.lay_n' (s : DS) (k : Int) (zs : List Int) : (s.lay k zs).n = s.n := by
  unfold DS.lay
  split
  · split <;> exact (DS.turn_n' s).1
  · rfl
theorem DS.settle_n' (s : DS) : s.settle.n = s.n := by
  unfold DS.settle
  split <;> exact (DS.turn_n' s).1
theorem DS.lay_up (s : DS) (k : Int) (zs : List Int) : (s.lay k zs).up.length ≤ s.up.length + 1 := by
  unfold DS.lay
  split
  · split
    · show (s.turn.up ++ [_]).length ≤ _
      rw [(DS.turn_n' s).2.1]; simp
    · rw [(DS.turn_n' s).2.1]; omega
  · omega
theorem DS.settle_up (s : DS) : s.settle.up.length ≤ s.up.length := by
  unfold DS.settle
  split
  · exact Nat.zero_le _
  · rw [(DS.turn_n' s).2.1]; exact Nat.le_refl _
theorem DS.lays_n (s : DS) (l : List (Int × List Int)) : (s.lays l).2.n = s.n ∧ (s.lays l).2.up.length ≤ s.up.length + l.length := by
  induction l generalizing s with
  | nil => exact ⟨rfl, Nat.le_refl _⟩
  | cons y l ih =>
    have hl : s.lays (y :: l) = if s.layCode y.1 y.2 = 0 then (s.lay y.1 y.2).lays l else (s.layCode y.1 y.2, s.lay y.1 y.2) := rfl
    have h1 := DS.lay_n' s y.1 y.2
    have h2 := DS.lay_up s y.1 y.2
    rw [hl]
    split
    · have := ih (s.lay y.1 y.2)
      rw [h1] at this
      exact ⟨this.1, by simp; omega⟩
    · exact ⟨h1, by simp; omega⟩

/-- a round's cover is laid, and settled -/
def DS.turned (s : DS) (r l : Int) : Int × DS :=
  if s.layCode (r % 2) (coverT r l) = 0 then ((s.lay (r % 2) (coverT r l)).code, (s.lay (r % 2) (coverT r l)).settle) else (s.layCode (r % 2) (coverT r l), s.lay (r % 2) (coverT r l))
theorem DS.turned_n (s : DS) (r l : Int) : (s.turned r l).2.n = s.n ∧ (s.turned r l).2.up.length ≤ s.up.length + 1 := by
  have h1 := DS.lay_n' s (r % 2) (coverT r l)
  have h2 := DS.lay_up s (r % 2) (coverT r l)
  unfold DS.turned
  split
  · exact ⟨by rw [DS.settle_n', h1], Nat.le_trans (DS.settle_up _) h2⟩
  · exact ⟨h1, h2⟩
/-- the blank tracks of a ledger that is founded -/
def zLays (n : Nat) : List (Int × List Int) := (List.range n).map fun (k : Nat) => ((k : Int), zeros96)
theorem zLays_succ (n : Nat) : zLays (n + 1) = zLays n ++ [((n : Int), zeros96)] := by unfold zLays; rw [List.range_succ, List.map_append]; rfl
theorem zLays_length (n : Nat) : (zLays n).length = n := by simp [zLays]
theorem zLays_le {k n : Nat} (h : k ≤ n) : ∃ r, zLays n = zLays k ++ r := by
  induction n with
  | zero => exact ⟨[], by rw [show k = 0 by omega]; rfl⟩
  | succ n ih =>
    by_cases e : k = n + 1
    · subst e; exact ⟨[], by simp⟩
    · obtain ⟨r, hr⟩ := ih (by omega)
      exact ⟨r ++ [((n : Int), zeros96)], by rw [zLays_succ, hr, List.append_assoc]⟩
/-- Found -/
def DS.founded (s : DS) (l : Int) : Int × DS :=
  if mayC 1 l s.n = true then
    if (s.lays (zLays (2 + l).toNat)).1 = 0 then
      if (s.lays (zLays (2 + l).toNat)).2.code = 0 then (s.lays (zLays (2 + l).toNat)).2.settle.turned 1 l else ((s.lays (zLays (2 + l).toNat)).2.code, (s.lays (zLays (2 + l).toNat)).2.settle)
    else s.lays (zLays (2 + l).toNat)
  else (1, s)

/-- a ledger -/
structure LS where
  round : Int
  leaves : Int
  used : Int
  last : Int
  taken : Tkn
  lost : Bool
def homeKeys (t : Tkn) (H : Nat) : List Int := ((List.range H).map fun (k : Nat) => (k : Int)).filter fun k => (t k).isSome
def LS.homeLays (L : LS) (H : Nat) : List (Int × List Int) := (homeKeys L.taken H).map fun k => (2 + L.leaves + k, (L.taken k).getD [])
def LS.H (L : LS) (s : DS) : Nat := ((s.n : Int) - (2 + L.leaves)).toNat
def LS.goHome (L : LS) (s : DS) : Int × LS × DS :=
  if (s.lays (L.homeLays (L.H s))).1 = 0 then
    if (s.lays (L.homeLays (L.H s))).2.code = 0 then
      if ((s.lays (L.homeLays (L.H s))).2.settle.turned (L.round + 1) L.leaves).1 = 0 then
        (0, { L with round := L.round + 1, used := 0, last := 0, taken := fun _ => none }, ((s.lays (L.homeLays (L.H s))).2.settle.turned (L.round + 1) L.leaves).2)
      else (((s.lays (L.homeLays (L.H s))).2.settle.turned (L.round + 1) L.leaves).1, { L with round := L.round + 1 }, ((s.lays (L.homeLays (L.H s))).2.settle.turned (L.round + 1) L.leaves).2)
    else ((s.lays (L.homeLays (L.H s))).2.code, L, (s.lays (L.homeLays (L.H s))).2.settle)
  else ((s.lays (L.homeLays (L.H s))).1, L, (s.lays (L.homeLays (L.H s))).2)
def LS.ends (L : LS) (e : Int) : LS := { L with lost := L.lost || decide (e = 4) }
def LS.settle (L : LS) (s : DS) : Int × LS × DS := if L.lost then (4, L, s) else (s.code, L.ends s.code, s.settle)
def LS.balance (L : LS) (s : DS) : Int × LS × DS :=
  if (L.settle s).1 = 0 then
    (((L.settle s).2.1.goHome (L.settle s).2.2).1, ((L.settle s).2.1.goHome (L.settle s).2.2).2.1.ends ((L.settle s).2.1.goHome (L.settle s).2.2).1, ((L.settle s).2.1.goHome (L.settle s).2.2).2.2)
  else L.settle s
/-- tracks, one behind the other -/
def idxLays (b : Int) : List (List Int) → List (Int × List Int)
  | [] => []
  | z :: r => (b, z) :: idxLays (b + 1) r
theorem idxLays_snoc (b : Int) (l : List (List Int)) (z : List Int) : idxLays b (l ++ [z]) = idxLays b l ++ [(b + l.length, z)] := by
  induction l generalizing b with
  | nil => show [(b, z)] = [(b + (0 : Nat), z)]; simp
  | cons y l ih =>
    show (b, y) :: idxLays (b + 1) (l ++ [z]) = (b, y) :: (idxLays (b + 1) l ++ [_])
    rw [ih, List.length_cons]
    have e : b + 1 + (l.length : Int) = b + ((l.length + 1 : Nat) : Int) := by omega
    rw [e]
theorem idxLays_append (b : Int) (l r : List (List Int)) : idxLays b (l ++ r) = idxLays b l ++ idxLays (b + l.length) r := by
  induction l generalizing b with
  | nil => show idxLays b r = [] ++ idxLays (b + (0 : Nat)) r; simp
  | cons y l ih =>
    show (b, y) :: idxLays (b + 1) (l ++ r) = (b, y) :: (idxLays (b + 1) l ++ _)
    rw [ih, List.length_cons]
    have e : b + 1 + (l.length : Int) = b + ((l.length + 1 : Nat) : Int) := by omega
    rw [e]
theorem idxLays_length (b : Int) (l : List (List Int)) : (idxLays b l).length = l.length := by
  induction l generalizing b with
  | nil => rfl
  | cons y l ih => show (idxLays (b + 1) l).length + 1 = _; rw [ih]; rfl
def LS.leafLays (L : LS) (l : List Ent) : List (Int × List Int) := idxLays (2 + L.used) (postL L.round (L.last + 1) l)
def LS.lay (L : LS) (s : DS) (l : List Ent) : Int × LS × DS :=
  if (s.lays (L.leafLays l)).1 = 0 then (0, { L with used := L.used + (L.leafLays l).length, last := L.last + 1, taken := putL L.taken l }, (s.lays (L.leafLays l)).2)
  else ((s.lays (L.leafLays l)).1, { L with used := L.used + s.laysN (L.leafLays l) }, (s.lays (L.leafLays l)).2)
def LS.layEnds (L : LS) (s : DS) (l : List Ent) : Int × LS × DS := ((L.lay s l).1, (L.lay s l).2.1.ends (L.lay s l).1, (L.lay s l).2.2)
def LS.write (L : LS) (s : DS) (l : List Ent) : Int × LS × DS :=
  if mayE l (L.H s) = true then
    if L.lost then (4, L, s)
    else if leavesN l.length > L.leaves then (5, L, s)
    else if leavesN l.length > L.leaves - L.used then
      if (L.balance s).1 = 0 then (L.balance s).2.1.layEnds (L.balance s).2.2 l else L.balance s
    else L.layEnds s l
  else (1, L, s)
def LS.lookC (L : LS) (s : DS) (k : Int) : Int := if 0 ≤ k ∧ k < L.H s then (if L.lost then 4 else if (L.taken k).isSome then 0 else if s.broken then 4 else 0) else 1
def LS.lookZ (L : LS) (s : DS) (k : Int) : List Int := if L.lookC s k = 0 then (match L.taken k with | some zs => zs | none => s.now (2 + L.leaves + k).toNat) else []
/-- the leaves as they stand -/
def DS.leavesOf (s : DS) (l : Int) : List (List Int) := (List.range l.toNat).map fun k => s.now (2 + k)
/-- a ledger as it is read -/
def openedL (s : DS) : LS := ⟨(readC s).1, (readC s).2, 0, 0, readL (readC s).1 ((s.n : Int) - (2 + (readC s).2)) ((readC s).2.toNat + 1) (s.leavesOf (readC s).2) 1 (fun _ => none), false⟩
def DS.openL (s : DS) : Int × LS × DS :=
  if s.broken then (4, openedL s, s) else if (readC s).1 = 0 then (11, openedL s, s) else (openedL s).goHome s

end Go.Proofs.YtleoelhhndeheaaGreat
