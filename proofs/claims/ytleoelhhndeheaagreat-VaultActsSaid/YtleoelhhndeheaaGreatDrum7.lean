/- package drum: Fall -/
import Derived.Test.YtleoelhhndeheaaGreatDrum6
import Derived.Test.YtleoelhhndeheaaGreatConcat
import Derived.Lib.MinMax
open Go Go.RowKit
namespace Go.Proofs.YtleoelhhndeheaaGreat

/-- a slice of ints that is read -/
structure IntsAt (w : World) (a : Option Addr) (m c : Nat) (zs : List Int) : Prop where
  row : Row w a (I8 zs)
  len : zs.length = m
  nil : a = none → m = 0 ∧ c = 0
  big : m ≤ 9223372036854775807
theorem IntsAt.below {w w' : World} {a : Option Addr} {m c : Nat} {zs : List Int} (h : IntsAt w a m c zs) {B : Nat} (hb : Below B w w') (hB : w.heap.size ≤ B) : IntsAt w' a m c zs := ⟨h.row.below hb hB, h.len, h.nil, h.big⟩
theorem IntsAt.ext {w w' : World} {a : Option Addr} {m c : Nat} {zs : List Int} (h : IntsAt w a m c zs) {F : Nat → Prop} (hx : Ext F w w') (hF : 0 < m → ¬ F (sB a)) : IntsAt w' a m c zs := ⟨h.row.ext hx (fun h0 => hF (by simp at h0; have := h.len; omega)), h.len, h.nil, h.big⟩
theorem IntsAt.none (w : World) : IntsAt w none 0 0 [] := ⟨Row.nil _ _, rfl, fun _ => ⟨rfl, rfl⟩, by omega⟩

theorem take_succ_get {zs : List Int} {i : Nat} (h : i < zs.length) : zs.take (i + 1) = zs.take i ++ [zs[i]?.getD 0] := by
  rw [List.take_add_one, List.getElem?_eq_getElem h]; rfl

theorem index_any (a : Option Addr) (la ca : Nat) (zs : List Int) (x : Int) (w : World) (h : IntsAt w a la ca zs) :
    Calls Tryz.prog 96 #[.slice a la ca, .int .i64 x] w fun e w' => ∃ r : Int, e = .returned (.int .i64 r) ∧ (0 ≤ r ↔ x ∈ zs) ∧ (r < 0 → r = -1) ∧ w = w' := by
  have hix := fun k (hk : k < la) => idx_at1 (P := Tryz.prog) (T := 33) Tryz.underlying33 szI (cap := ca) (fun _ => h.row.nn (by simp; have := h.len; omega)) hk
  have HL := hid h.len
  have hbig := h.big
  go_enter Tryz.func96, Tryz.ntmps96
  go_wp2_with fail
  go_loop [8] (fun v => ∃ i : Nat, v = .int .i64 i ∧ i ≤ la ∧ Hid (x ∉ zs.take i)) (fun v => la - (intOf v).toNat)
  case atStart => exact ⟨0, rfl, Nat.zero_le _, hid (by simp)⟩
  case round =>
    obtain ⟨i, rfl, hi, hn⟩ := hrel
    by_cases hin : i < la
    · have hixi := hix i hin
      have hiz : i < zs.length := by rw [HL.out]; exact hin
      have hc := h.row.num hiz
      have TK := take_succ_get hiz
      have hmem : zs[i]?.getD 0 ∈ zs := by rw [List.getElem?_eq_getElem hiz]; exact List.getElem_mem _
      obtain ⟨y, hy⟩ : ∃ y, zs[i]?.getD 0 = y := ⟨_, rfl⟩
      rw [hy] at hc TK hmem
      have TK2 := hid TK
      have HM := hid hmem
      clear hy hiz hmem TK
      by_cases hxy : x = y
      · subst hxy
        go_wp2_with fail
        go_ret
        exact ⟨i, rfl, ⟨fun _ => HM.out, fun _ => by omega⟩, by omega, rfl⟩
      · have hne : (x == y) = false := by simp only [beq_eq_false_iff_ne]; exact hxy
        have HX := hid hxy
        clear hxy
        go_wp2_with fail
        go_round
        case measure => simp [intOf]; omega
        case rel =>
          refine ⟨i + 1, by go_num, by omega, hid ?_⟩
          rw [TK2.out, List.mem_append]
          rintro (h1 | h1)
          · exact hn.out h1
          · simp at h1; exact HX.out h1
    · obtain rfl : la = i := by omega
      have hn := hn.out
      rw [← HL.out, List.take_length] at hn
      have HN := hid hn
      clear hn
      go_wp2_with fail
      go_ret
      exact ⟨-1, rfl, ⟨fun h => by omega, fun h => absurd h HN.out⟩, fun _ => rfl, rfl⟩

theorem contains_any (a : Option Addr) (la ca : Nat) (zs : List Int) (x : Int) (w : World) (h : IntsAt w a la ca zs) :
    Calls Tryz.prog 65 #[.slice a la ca, .int .i64 x] w fun e w' => e = .returned (.bool (decide (x ∈ zs))) ∧ w = w' := by
  go_enter Tryz.func65, Tryz.ntmps65
  go_wp2_with fail
  refine (index_any a la ca zs x w h).mono ?_
  rintro e w1 ⟨r, rfl, hr, -, rfl⟩
  have HR := hid hr
  clear hr
  go_wp2_with fail
  go_ret
  exact ⟨by simp; exact HR.out, rfl⟩

/-- how many bytes of a torn lay are done -/
def cutOf (cut : Int) : Nat := (max 0 (min cut 96)).toNat
/-- what one lay leaves -/
def fallOne (keep : List Int) (torn : Int) (c : Nat) (K : Nat → List Int) (k : Nat) (p : Nat × List Int) : Nat → List Int :=
  if (k : Int) ∈ keep then upd K p.1 p.2 else if (k : Int) = torn then upd K p.1 (p.2.take c ++ (K p.1).drop c) else K
def DS.fallTo (s : DS) (keep : List Int) (torn : Int) (c : Nat) : Nat → (Nat → List Int)
  | 0 => s.kept
  | k + 1 => fallOne keep torn c (s.fallTo keep torn c k) k (s.up[k]?.getD (0, []))
def DS.fall (s : DS) (keep : List Int) (torn cut : Int) : DS :=
  { s with kept := s.fallTo keep torn (cutOf cut) s.up.length, now := s.fallTo keep torn (cutOf cut) s.up.length, up := [], fuse := none, broken := false }

end Go.Proofs.YtleoelhhndeheaaGreat
