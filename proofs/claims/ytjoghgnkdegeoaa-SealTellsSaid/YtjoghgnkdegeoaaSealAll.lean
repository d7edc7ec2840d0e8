/- Close and Open of both, whatever comes -/
import Derived.Test.YtjoghgnkdegeoaaSealRef
import Derived.Test.YtjoghgnkdegeoaaSealLaw
open Go Go.RowKit
namespace Go.Proofs.Ytjoghgnkdegeoaa

def shut (zs : List Int) : List Int := if zs.length ≤ 84 then closed zs else []
def opened (zs : List Int) : List Int := if opens zs then zs.take 84 else []

theorem shut_bytes {zs : List Int} (h : IsBytes zs) : IsBytes (shut zs) := by
  unfold shut; split
  · exact closed_bytes h
  · intro n hn; cases hn
theorem opened_bytes {zs : List Int} (h : IsBytes zs) : IsBytes (opened zs) := by
  unfold opened; split
  · exact h.take 84
  · intro n hn; cases hn

theorem close_all (a : Option Addr) (len cap : Nat) (zs : List Int) (w : World) (h : Row w a (B8 zs)) (hl : zs.length = len) (hn : a = none → len = 0) (hb : len ≤ 9223372036854775807) (hz : IsBytes zs) :
    Calls Try.prog 10 #[.slice a len cap] w fun e w' => ∃ a' n c', e = .returned (.tuple #[.slice a' n c', .bool (decide (len ≤ 84))]) ∧ Row w' a' (B8 (shut zs)) ∧ (shut zs).length = n ∧ Below w.heap.size w w' := by
  by_cases hc : len ≤ 84
  · refine (close_any a len cap zs w h hl hn hc hz).mono ?_
    rintro e w' ⟨v, rfl, o, B⟩
    obtain ⟨a', c', rfl, hl', _, _, r, _, _⟩ := row_of_owns o
    have e : shut zs = closed zs := by unfold shut; rw [if_pos (by omega)]
    exact ⟨a', 96, c', by rw [decide_eq_true hc], by rw [e]; exact r, by rw [e]; exact closed_length (by omega), B⟩
  · refine (close_long a len cap w (by omega) hb).mono ?_
    rintro e w' ⟨rfl, rfl⟩
    have e : shut zs = [] := by unfold shut; rw [if_neg (by omega)]
    exact ⟨none, 0, 0, by rw [decide_eq_false hc], by rw [e]; exact Row.nil _ _, by rw [e]; rfl, Below.refl _ _⟩

theorem rclose_all (a : Option Addr) (len cap : Nat) (zs : List Int) (w : World) (h : Row w a (B8 zs)) (hl : zs.length = len) (hn : a = none → len = 0 ∧ cap = 0) (hb : len ≤ 9223372036854775807) (hz : IsBytes zs) :
    Calls Try.prog 13 #[.slice a len cap] w fun e w' => ∃ a' n c', e = .returned (.tuple #[.slice a' n c', .bool (decide (len ≤ 84))]) ∧ Row w' a' (B8 (shut zs)) ∧ (shut zs).length = n ∧ Below w.heap.size w w' := by
  by_cases hc : len ≤ 84
  · refine (rclose_any a len cap zs w h hl hn hc hz).mono ?_
    rintro e w' ⟨v, rfl, o, B⟩
    obtain ⟨a', c', rfl, hl', _, _, r, _, _⟩ := row_of_owns o
    have e : shut zs = closed zs := by unfold shut; rw [if_pos (by omega)]
    exact ⟨a', 96, c', by rw [decide_eq_true hc], by rw [e]; exact r, by rw [e]; exact closed_length (by omega), B⟩
  · refine (rclose_long a len cap w (by omega) hb).mono ?_
    rintro e w' ⟨rfl, rfl⟩
    have e : shut zs = [] := by unfold shut; rw [if_neg (by omega)]
    exact ⟨none, 0, 0, by rw [decide_eq_false hc], by rw [e]; exact Row.nil _ _, by rw [e]; rfl, Below.refl _ _⟩

theorem open_all (a : Option Addr) (len cap : Nat) (zs : List Int) (w : World) (h : Row w a (B8 zs)) (hl : zs.length = len) (hc : len ≤ cap) (hm : cap ≤ 9223372036854775807) (hz : IsBytes zs) :
    Calls Try.prog 11 #[.slice a len cap] w fun e w' => ∃ a' n c', e = .returned (.tuple #[.slice a' n c', .bool (opens zs)]) ∧ Row w' a' (B8 (opened zs)) ∧ (opened zs).length = n ∧ Below w.heap.size w w' := by
  by_cases h9 : len = 96
  · subst h9
    by_cases ho : closed (zs.take 84) = zs
    · refine (open_yes a cap zs w h hl hc hm hz ho).mono ?_
      rintro e w' ⟨v, rfl, o, B⟩
      obtain ⟨a', c', rfl, hl', _, _, r, _, _⟩ := row_of_owns o
      have e : opens zs = true := by unfold opens; simp [hl, ho]
      have e2 : opened zs = zs.take 84 := by unfold opened; rw [if_pos e]
      exact ⟨a', 84, c', by rw [e], by rw [e2]; exact r, by rw [e2]; simp; omega, B⟩
    · refine (open_no a cap zs w h hl hc hm hz ho).mono ?_
      rintro e w' ⟨rfl, B⟩
      have e : opens zs = false := by unfold opens; simp [hl, ho]
      have e2 : opened zs = [] := by unfold opened; rw [e]; rfl
      exact ⟨none, 0, 0, by rw [e], by rw [e2]; exact Row.nil _ _, by rw [e2]; rfl, B⟩
  · refine (open_len a len cap w h9 (by omega)).mono ?_
    rintro e w' ⟨rfl, rfl⟩
    have e : opens zs = false := by unfold opens; simp [hl, h9]
    have e2 : opened zs = [] := by unfold opened; rw [e]; rfl
    exact ⟨none, 0, 0, by rw [e], by rw [e2]; exact Row.nil _ _, by rw [e2]; rfl, Below.refl _ _⟩

theorem ropen_len (a : Option Addr) (len cap : Nat) (w : World) (hb : len ≠ 96) (hm : len ≤ 9223372036854775807) :
    Calls Try.prog 16 #[.slice a len cap] w fun e w' => e = .returned (.tuple #[.slice none 0 0, .bool false]) ∧ w = w' := by
  have h1 : ((len : Int) != 96) = true := by simp; omega
  go_enter Try.func16, Try.ntmps16
  go_wp2_with fail
  go_ret2
  exact ⟨rfl, rfl⟩

set_option maxRecDepth 100000 in
set_option maxHeartbeats 2000000 in
theorem ropen_96 (a : Option Addr) (cap : Nat) (zs : List Int) (w : World) (h : Row w a (B8 zs)) (hl : zs.length = 96) (hc : 96 ≤ cap) (hm : cap ≤ 9223372036854775807) (hz : IsBytes zs) :
    Calls Try.prog 16 #[.slice a 96 cap] w fun e w' => ∃ a' n c', e = .returned (.tuple #[.slice a' n c', .bool (opens zs)]) ∧ Row w' a' (B8 (opened zs)) ∧ (opened zs).length = n ∧ Below w.heap.size w w' := by
  have ha := h.nn (by simp; omega)
  have hrow : Row w a (B8 (zs.take 84)) := by rw [B8, List.map_take]; exact h.take 84
  have htl : (zs.take 84).length ≤ 84 := by simp; omega
  have HL := hid hl
  have HT := hid (show (zs.take 84).length = 84 by simp; omega)
  have hbl := closed_length (zs := zs.take 84) htl
  have HB := hid hbl
  clear hl hbl
  cases a with
  | none => cases ha
  | some x =>
    clear ha
    go_enter Try.func16, Try.ntmps16
    go_wp2_with fail
    refine (rclose_any (some x) 84 cap (zs.take 84) w hrow HT.out (fun h => by cases h) (by decide) (hz.take 84)).mono ?_
    rintro e w1 ⟨v1, rfl, o1, B1⟩
    obtain ⟨a1, c1, rfl, _, hc1, hm1, r1, d1, n1⟩ := row_of_owns o1
    have s1 := B1.size
    have h1 := h.below B1 (Nat.le_refl _)
    unfold maxLen at hm1
    have e1 := conv_row (P := Try.prog) Try.underlying25 Try.underlying5 Try.underlying9 c1 r1 (len := 96) HB.out
    have e2 := conv_row (P := Try.prog) Try.underlying25 Try.underlying5 Try.underlying9 cap h1 (len := 96) HL.out
    by_cases ho : closed (zs.take 84) = zs
    · have hse : ((strOfNums (closed (zs.take 84))).toList == (strOfNums zs).toList) = true := by
        rw [str_eq (closed_bytes (hz.take 84)) hz, decide_eq_true ho]
      have eo : opens zs = true := by unfold opens; simp [HL.out, ho]
      have e2 : opened zs = zs.take 84 := by unfold opened; rw [if_pos eo]
      have e3 : (closed (zs.take 84)).take 84 = zs.take 84 := by rw [ho]
      have EO := hid eo
      have E2 := hid e2
      have E3 := hid e3
      clear eo e2 e3 ho
      cases a1 with
      | none => have := n1 rfl; omega
      | some x1 =>
        go_wp2_with fail
        go_ret2
        exact ⟨some x1, 84, c1, by rw [EO.out]; rfl, by rw [E2.out, ← E3.out, B8, List.map_take]; exact r1.take 84, by rw [E2.out, HT.out], B1⟩
    · have hse : ((strOfNums (closed (zs.take 84))).toList == (strOfNums zs).toList) = false := by
        rw [str_eq (closed_bytes (hz.take 84)) hz, decide_eq_false ho]
      have eo : opens zs = false := by unfold opens; simp [HL.out, ho]
      have e2 : opened zs = [] := by unfold opened; rw [eo]; rfl
      have EO := hid eo
      have E2 := hid e2
      clear eo e2 ho
      go_wp2_with fail
      go_ret2
      exact ⟨none, 0, 0, by rw [EO.out]; rfl, by rw [E2.out]; exact Row.nil _ _, by rw [E2.out]; rfl, B1⟩

theorem ropen_all (a : Option Addr) (len cap : Nat) (zs : List Int) (w : World) (h : Row w a (B8 zs)) (hl : zs.length = len) (hc : len ≤ cap) (hm : cap ≤ 9223372036854775807) (hz : IsBytes zs) :
    Calls Try.prog 16 #[.slice a len cap] w fun e w' => ∃ a' n c', e = .returned (.tuple #[.slice a' n c', .bool (opens zs)]) ∧ Row w' a' (B8 (opened zs)) ∧ (opened zs).length = n ∧ Below w.heap.size w w' := by
  by_cases h9 : len = 96
  · subst h9; exact ropen_96 a cap zs w h hl hc hm hz
  · refine (ropen_len a len cap w h9 (by omega)).mono ?_
    rintro e w' ⟨rfl, rfl⟩
    have e : opens zs = false := by unfold opens; simp [hl, h9]
    have e2 : opened zs = [] := by unfold opened; rw [e]; rfl
    exact ⟨none, 0, 0, by rw [e], by rw [e2]; exact Row.nil _ _, by rw [e2]; rfl, Below.refl _ _⟩

end Go.Proofs.Ytjoghgnkdegeoaa
