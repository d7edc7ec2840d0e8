/- bytes as text -/
import Derived.Test.YtleoelhhndeheaaGreatRow
import Derived.Laws.BytesArg
import Derived.Lib.SlBytesConst
open Go Go.RowKit
namespace Go.Proofs.YtleoelhhndeheaaGreat

theorem conv_row {P : Program} {w : World} {src e dst : TypeId} (hs : P.underlying src = some (.slice e)) (he : P.underlying e = some (.int .u8)) (hd : P.underlying dst = some .string) {a : Option Addr} {len : Nat} (cap : Nat) {zs : List Int} (h : Row w a (B8 zs)) (hl : zs.length = len) :
    (convert src dst (.slice a len cap)).run P w = .ok (.string (strOfNums zs)) w := by
  cases a with
  | none =>
    have : zs = [] := by
      rcases Nat.eq_zero_or_pos zs.length with h0 | h0
      · exact List.eq_nil_of_length_eq_zero h0
      · have := h.nn (by simpa using h0); cases this
    subst this
    subst hl
    rw [run_convert_bytes_nil (P := P) w src e hs he _ _ dst hd]
    rfl
  | some x =>
    rcases Nat.eq_zero_or_pos zs.length with h0 | h0
    · have : zs = [] := List.eq_nil_of_length_eq_zero h0
      subst this
      subst hl
      rw [run_convert_bytes_string w src dst e _ _ cap hs he hd, run_bytesToString w x _ cap [] (by rfl)]
      rfl
    · have hx := h.nn (by simpa using h0)
      rw [hx]
      refine run_convert_bytes_arg w src e hs he (sB (some x)) (sO (some x)) len cap zs hl (fun i hi => ?_) dst hd
      rw [h.byte (by omega), List.getD_eq_getElem?_getD]

theorem str_eq {xs ys : List Int} (hx : IsBytes xs) (hy : IsBytes ys) : ((strOfNums xs).toList == (strOfNums ys).toList) = decide (xs = ys) := by
  rw [Bool.eq_iff_iff, beq_iff_eq, decide_eq_true_iff]
  constructor
  · intro h
    have h1 : (strOfNums xs).data.toList = (strOfNums ys).data.toList := by rw [← Lib.toList_data, ← Lib.toList_data, h]
    rw [strOfNums_data, strOfNums_data] at h1
    have hl : xs.length = ys.length := by simpa using congrArg List.length h1
    apply List.ext_getElem hl
    intro i hi1 hi2
    have h2 := congrArg (fun l => l[i]?) h1
    simp only [List.getElem?_map, List.getElem?_eq_getElem hi1, List.getElem?_eq_getElem hi2, Option.map_some, Option.some.injEq] at h2
    have b1 := hx _ (List.getElem_mem hi1)
    have b2 := hy _ (List.getElem_mem hi2)
    have h3 := congrArg UInt8.toNat h2
    rw [UInt8.toNat_ofNat', UInt8.toNat_ofNat'] at h3
    omega
  · rintro rfl; rfl

theorem row_new_mark (w : World) (c : Array Value) (t : TypeId) (f : Nat × Nat) : Row (w.alloc (.cells c t f)) (some ⟨w.heap.size, 0, none⟩) c.toList := by
  refine ⟨fun _ => rfl, fun i v hv => ?_⟩
  rw [Array.getElem?_toList] at hv
  show (w.alloc (.cells c t f)).cell? ⟨w.heap.size, 0 + i, none⟩ = some v
  rw [Nat.zero_add]
  exact blk_cell (blk_new w _) hv

end Go.Proofs.YtleoelhhndeheaaGreat
