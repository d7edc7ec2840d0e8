/- DrumTorn, DrumBreaks: the plain laws; a drum alone -/
import Derived.Test.YtfijglkealnopaaKnown4
import Derived.Test.YtfijglkealnopaaStr
open Go Go.RowKit
namespace Go.Proofs.Ytfijglkealnopaa

/-- a drum, from a world on -/
structure One (w0 w : World) (M : Dom) (d : Nat) (s : DS) : Prop where
  drum : DrumAt w M d s
  low : ∀ q, M q → w0.heap.size ≤ q
  bel : Below w0.heap.size w0 w
theorem One.below {w0 w w' : World} {M : Dom} {d : Nat} {s : DS} (h : One w0 w M d s) (k : Below w.heap.size w w') : One w0 w' M d s := ⟨h.drum.below k, h.low, h.bel.trans (k.mono h.bel.size)⟩
theorem One.step {w0 w w' : World} {M M' : Dom} {d : Nat} {s s' : DS} (h : One w0 w M d s) (hd : DrumAt w' M' d s') (k : Step M w M' w') : One w0 w' M' d s' := by
  obtain ⟨h1, h2⟩ := Step.below h.bel k h.low h.bel.size
  exact ⟨hd, h2, h1⟩

/-- the lays that neither are kept nor torn leave nothing -/
theorem fallTo_none {s : DS} {t : Int} {c : Nat} : ∀ j, (∀ i : Nat, i < j → (i : Int) ≠ t) → s.fallTo [] t c j = s.kept
  | 0, _ => rfl
  | j + 1, h => by
    show fallOne [] t c (s.fallTo [] t c j) j _ = s.kept
    unfold fallOne
    rw [if_neg (by simp), if_neg (h j (by omega)), fallTo_none j (fun i hi => h i (by omega))]
/-- the last lay is torn -/
theorem torn_now {s : DS} {L tk : Nat} {zs : List Int} (hL : s.up.length = L) (cut : Int) (k : Nat) :
    ((s.lay1 tk zs).fall [] L cut).now k = if k = tk then zs.take (cutOf cut) ++ (s.kept tk).drop (cutOf cut) else s.kept k := by
  show (s.lay1 tk zs).fallTo [] L (cutOf cut) (s.up ++ [(tk, zs)]).length k = _
  rw [List.length_append, hL]
  show fallOne [] L (cutOf cut) ((s.lay1 tk zs).fallTo [] L (cutOf cut) L) L ((s.up ++ [(tk, zs)])[L]?.getD (0, [])) k = _
  rw [fallTo_none L (fun i hi => by omega)]
  rw [List.getElem?_append_right (by omega), hL, Nat.sub_self]
  show fallOne [] L (cutOf cut) s.kept L (tk, zs) k = _
  unfold fallOne
  rw [if_neg (by simp), if_pos rfl]
  by_cases h : k = tk
  · subst h; rw [if_pos rfl]; exact upd_same _ _ _
  · rw [if_neg h]; exact upd_ne _ _ h
theorem fall_none {s : DS} {t : Int} (ht : t < 0) (cut : Int) : (s.fall [] t cut).now = s.kept ∧ (s.fall [] t cut).kept = s.kept :=
  ⟨fallTo_none _ (fun i _ => by omega), fallTo_none _ (fun i _ => by omega)⟩

/-- texts of bytes: a part, and two joined -/
theorem str_take (xs : List Int) (n : Nat) : (strOfNums xs).extract 0 n = strOfNums (xs.take n) := by
  apply ByteArray.ext
  rw [ByteArray.data_extract]
  apply Array.toList_inj.1
  rw [Array.toList_extract, strOfNums_data, strOfNums_data]
  simp [List.map_take]
theorem str_drop (xs : List Int) (n m : Nat) (h : xs.length ≤ m) : (strOfNums xs).extract n m = strOfNums (xs.drop n) := by
  apply ByteArray.ext
  rw [ByteArray.data_extract]
  apply Array.toList_inj.1
  rw [Array.toList_extract, strOfNums_data, strOfNums_data]
  simp only [List.extract, List.map_drop]
  rw [List.take_of_length_le (by simp; omega)]
theorem str_append (xs ys : List Int) : strOfNums xs ++ strOfNums ys = strOfNums (xs ++ ys) := by
  apply ByteArray.ext
  rw [ByteArray.data_append]
  apply Array.toList_inj.1
  rw [Array.toList_append, strOfNums_data, strOfNums_data, strOfNums_data, List.map_append]

end Go.Proofs.Ytfijglkealnopaa
