/- a []Turn that came in: its rows -/
import Derived.Test.YtfijglkealnopaaTurnsArg
import Derived.Test.YtfijglkealnopaaDrum7
open Go Go.RowKit
namespace Go.Proofs.Ytfijglkealnopaa

/-- the two rows of a turn -/
structure TurnR where
  ba : Option Addr
  bl : Nat
  bc : Nat
  bz : List Int
  ka : Option Addr
  kl : Nat
  kc : Nat
  kz : List Int
instance : Inhabited TurnR := ⟨⟨none, 0, 0, [], none, 0, 0, []⟩⟩
structure RowsOk (w : World) (y : TurnR) : Prop where
  brow : Row w y.ba (B8 y.bz)
  blen : y.bz.length = y.bl
  bby : IsBytes y.bz
  bnil : y.ba = none → y.bl = 0 ∧ y.bc = 0
  breach : y.bl ≤ 140737488351232
  krow : IntsAt w y.ka y.kl y.kc y.kz
  kbd : IsNums y.kz
structure TurnsRows (w : World) (a : Option Addr) (len : Nat) (Y : Nat → TurnR) : Prop where
  c4 : ∀ i, i < len → w.cell? ⟨sB a, sO a + i * 6 + 4, none⟩ = some (.slice (Y i).ba (Y i).bl (Y i).bc)
  c5 : ∀ i, i < len → w.cell? ⟨sB a, sO a + i * 6 + 5, none⟩ = some (.slice (Y i).ka (Y i).kl (Y i).kc)
  ok : ∀ i, i < len → RowsOk w (Y i)
theorem RowsOk.below {w w' : World} {y : TurnR} (h : RowsOk w y) {B : Nat} (hb : Below B w w') (hB : w.heap.size ≤ B) : RowsOk w' y :=
  ⟨h.brow.below hb hB, h.blen, h.bby, h.bnil, h.breach, h.krow.below hb hB, h.kbd⟩
theorem TurnsRows.below {w w' : World} {a : Option Addr} {n : Nat} {Y : Nat → TurnR} (h : TurnsRows w a n Y) {B : Nat} (hb : Below B w w') (hB : w.heap.size ≤ B) : TurnsRows w' a n Y :=
  ⟨fun i hi => Below.cellAt hb (by have := lt_of_cell (h.c4 i hi); omega) (h.c4 i hi), fun i hi => Below.cellAt hb (by have := lt_of_cell (h.c5 i hi); omega) (h.c5 i hi), fun i hi => (h.ok i hi).below hb hB⟩

end Go.Proofs.Ytfijglkealnopaa
