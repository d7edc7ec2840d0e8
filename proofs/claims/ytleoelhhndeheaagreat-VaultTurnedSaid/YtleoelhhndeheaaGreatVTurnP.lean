import Derived.Test.YtleoelhhndeheaaGreatVltV
import Derived.Test.YtleoelhhndeheaaGreatSealClose
import Derived.Test.YtleoelhhndeheaaGreatVRun
import Derived.Test.YtleoelhhndeheaaGreatRestC
/- closed tracks, again -/
open Go Go.RowKit
namespace Go.Proofs.YtleoelhhndeheaaGreat

theorem padded_padded {zs : List Int} (h : zs.length ≤ 84) : padded (padded zs) = padded zs := by
  have := padded_length h
  have e : padded (padded zs) = padded zs ++ List.replicate (84 - (padded zs).length) 0 := rfl
  rw [e, this]; simp
theorem closed_padded {zs : List Int} (h : zs.length ≤ 84) : closed (padded zs) = closed zs := by
  unfold closed; rw [padded_padded h]

end Go.Proofs.YtleoelhhndeheaaGreat

/- chapter 3's sums, without the remainder, of two rows one behind the other -/
open Go Go.RowKit
namespace Go.Proofs.YtleoelhhndeheaaGreat

def fs (zs : List Int) : Nat → Int
  | 0 => 0
  | n + 1 => fs zs n + wd zs n
def ss (zs : List Int) : Nat → Int
  | 0 => 0
  | n + 1 => ss zs n + wd zs n * (n + 1)

theorem fs_bd {zs : List Int} (h : IsBytes zs) (n : Nat) : 0 ≤ fs zs n ∧ fs zs n ≤ n * 4294967295 := by
  induction n with
  | zero => simp [fs]
  | succ n ih =>
    have := wd_bd h n
    simp only [fs]
    omega
theorem ss_bd {zs : List Int} (h : IsBytes zs) (n : Nat) (hn : n ≤ 32) : 0 ≤ ss zs n ∧ ss zs n ≤ n * 137438953440 := by
  induction n with
  | zero => simp [ss]
  | succ n ih =>
    have := wd_bd h n
    have := ih (by omega)
    have e : 0 ≤ wd zs n * ((n : Int) + 1) := Int.mul_nonneg (by omega) (by omega)
    have e2 : wd zs n * ((n : Int) + 1) ≤ 4294967295 * 32 := Int.mul_le_mul (by omega) (by omega) (by omega) (by decide)
    simp only [ss]
    omega
theorem wrap64_id {n : Int} (h1 : -9223372036854775808 ≤ n) (h2 : n < 9223372036854775808) : wrap64 n = n := by unfold wrap64; omega
theorem sm_plain {zs : List Int} (h : IsBytes zs) (n : Nat) (hn : n ≤ 32) : sm zs n = (fs zs n, ss zs n) := by
  induction n with
  | zero => simp [sm, fs, ss]
  | succ n ih =>
    have h1 := fs_bd h (n + 1)
    have h2 := ss_bd h (n + 1) hn
    have h0 := ss_bd h n (by omega)
    have hw := wd_bd h n
    have e : 0 ≤ wd zs n * ((n : Int) + 1) := Int.mul_nonneg (by omega) (by omega)
    have e2 : wd zs n * ((n : Int) + 1) ≤ 4294967295 * 32 := Int.mul_le_mul (by omega) (by omega) (by omega) (by decide)
    simp only [sm, ih (by omega)]
    simp only [fs, ss] at h1 h2 ⊢
    rw [wrap64_id (n := wd zs n * ((n : Int) + 1)) (by omega) (by omega), wrap64_id (by omega) (by omega), Int.tmod_eq_emod_of_nonneg (by omega)]
    refine Prod.ext ?_ ?_ <;> show _ % 281474976710656 = _ <;> omega

theorem zb_app_l {x y : List Int} {i : Nat} (h : i < x.length) : zb (x ++ y) i = zb x i := by
  unfold zb; rw [List.getElem?_append_left h]
theorem zb_app_r {x y : List Int} {i : Nat} (h : x.length ≤ i) : zb (x ++ y) i = zb y (i - x.length) := by
  unfold zb; rw [List.getElem?_append_right h]
theorem wd_app_l {x y : List Int} {p j : Nat} (hx : x.length = 4 * p) (h : j < p) : wd (x ++ y) j = wd x j := by
  simp only [wd, pw]
  rw [zb_app_l (by omega), zb_app_l (by omega), zb_app_l (by omega), zb_app_l (by omega)]
theorem wd_app_r {x y : List Int} {p j : Nat} (hx : x.length = 4 * p) : wd (x ++ y) (p + j) = wd y j := by
  simp only [wd, pw]
  rw [zb_app_r (by omega), zb_app_r (by omega), zb_app_r (by omega), zb_app_r (by omega), hx]
  rw [show 4 * (p + j) + 0 - 4 * p = 4 * j + 0 by omega, show 4 * (p + j) + 1 - 4 * p = 4 * j + 1 by omega, show 4 * (p + j) + 2 - 4 * p = 4 * j + 2 by omega, show 4 * (p + j) + 3 - 4 * p = 4 * j + 3 by omega]

theorem sums_app_l {x y : List Int} {p : Nat} (hx : x.length = 4 * p) (n : Nat) (hn : n ≤ p) : fs (x ++ y) n = fs x n ∧ ss (x ++ y) n = ss x n := by
  induction n with
  | zero => simp [fs, ss]
  | succ n ih =>
    have := ih (by omega)
    simp only [fs, ss]
    rw [this.1, this.2, wd_app_l hx (by omega)]
    exact ⟨rfl, rfl⟩
theorem sums_app_r {x y : List Int} {p : Nat} (hx : x.length = 4 * p) (n : Nat) : fs (x ++ y) (p + n) = fs x p + fs y n ∧ ss (x ++ y) (p + n) = ss x p + ss y n + p * fs y n := by
  induction n with
  | zero => simpa [fs, ss] using sums_app_l hx p (Nat.le_refl _)
  | succ n ih =>
    rw [← Nat.add_assoc]
    simp only [fs, ss]
    rw [ih.1, ih.2, wd_app_r hx]
    refine ⟨by omega, ?_⟩
    have h2 : (p : Int) * (fs y n + wd y n) = p * fs y n + p * wd y n := Int.mul_add ..
    have : wd y n * (((p + n : Nat) : Int) + 1) = wd y n * ((n : Int) + 1) + p * wd y n := by
      rw [show (((p + n : Nat) : Int) + 1) = ((n : Int) + 1) + p by omega, Int.mul_add, Int.mul_comm (p : Int)]
    omega

/-- what the law asks -/
theorem sums_adds {x y : List Int} {p : Nat} (hx : IsBytes x) (hy : IsBytes y) (hp : x.length = 4 * p) (hp2 : p ≤ 10) (hq : y.length ≤ 40) :
    (sums (x ++ y)).1 = (sums x).1 + (sums y).1 ∧ (sums (x ++ y)).2 = (sums x).2 + (sums y).2 + p * (sums y).1 ∧
    (0 ≤ (sums x).1 ∧ (sums x).1 < 281474976710656) ∧ (0 ≤ (sums y).1 ∧ (sums y).1 < 281474976710656) ∧ (0 ≤ (sums x).2 ∧ (sums x).2 < 281474976710656) ∧ (0 ≤ (sums y).2 ∧ (sums y).2 < 281474976710656) ∧
    (0 ≤ p * (sums y).1 ∧ p * (sums y).1 < 4503599627370496) := by
  have e1 : (x.length + 3) / 4 = p := by omega
  have e2 : ((x ++ y).length + 3) / 4 = p + (y.length + 3) / 4 := by rw [List.length_append]; omega
  have b1 := sums_bd hx (by omega)
  have b2 := sums_bd hy (by omega)
  have a := sums_app_r (y := y) hp ((y.length + 3) / 4)
  have b3 : 0 ≤ (p : Int) * (sums y).1 := Int.mul_nonneg (by omega) (by omega)
  have b4 : (p : Int) * (sums y).1 ≤ 10 * 281474976710656 := Int.mul_le_mul (by omega) (by omega) (by omega) (by decide)
  refine ⟨?_, ?_, b1.1, b2.1, b1.2, b2.2, b3, by omega⟩
  · unfold sums
    rw [e1, e2, sm_plain (hx.append hy) _ (by omega), sm_plain hx _ (by omega), sm_plain hy _ (by omega)]
    exact a.1
  · unfold sums
    rw [e1, e2, sm_plain (hx.append hy) _ (by omega), sm_plain hx _ (by omega), sm_plain hy _ (by omega)]
    exact a.2

end Go.Proofs.YtleoelhhndeheaaGreat

/- chapter 3: a closed track of which up to four bytes, one behind the other, were turned opens just where none was -/
open Go Go.RowKit
namespace Go.Proofs.YtleoelhhndeheaaGreat

theorem wd_bytes {x y : List Int} (hx : IsBytes x) (hy : IsBytes y) {k : Nat} (h : wd x k = wd y k) : ∀ i, i < 4 → zb x (4 * k + i) = zb y (4 * k + i) := by
  have a0 := zb_bd hx (4 * k + 0); have a1 := zb_bd hx (4 * k + 1); have a2 := zb_bd hx (4 * k + 2); have a3 := zb_bd hx (4 * k + 3)
  have b0 := zb_bd hy (4 * k + 0); have b1 := zb_bd hy (4 * k + 1); have b2 := zb_bd hy (4 * k + 2); have b3 := zb_bd hy (4 * k + 3)
  simp only [wd, pw] at h
  intro i hi
  rcases (by omega : i = 0 ∨ i = 1 ∨ i = 2 ∨ i = 3) with rfl | rfl | rfl | rfl <;> omega

/-- sums of two that differ in two words alone, one behind the other -/
theorem sums_two {x y : List Int} {j : Nat} (h : ∀ k, k ≠ j → k ≠ j + 1 → wd x k = wd y k) (n : Nat) :
    fs x n = fs y n + (if j < n then wd x j - wd y j else 0) + (if j + 1 < n then wd x (j + 1) - wd y (j + 1) else 0) ∧
    ss x n = ss y n + (if j < n then (wd x j - wd y j) * ((j : Int) + 1) else 0) + (if j + 1 < n then (wd x (j + 1) - wd y (j + 1)) * ((j : Int) + 2) else 0) := by
  induction n with
  | zero => simp [fs, ss]
  | succ n ih =>
    obtain ⟨ih1, ih2⟩ := ih
    simp only [fs, ss]
    rw [ih1, ih2]
    by_cases h1 : n = j
    · subst h1
      rw [if_neg (by omega), if_neg (by omega), if_pos (by omega), if_neg (by omega), if_neg (by omega), if_neg (by omega), if_pos (by omega), if_neg (by omega), Int.sub_mul]
      omega
    · by_cases h2 : n = j + 1
      · subst h2
        have e : ((j + 1 : Nat) : Int) + 1 = (j : Int) + 2 := by omega
        rw [if_pos (by omega), if_neg (by omega), if_pos (by omega), if_pos (by omega), if_pos (by omega), if_neg (by omega), if_pos (by omega), if_pos (by omega), e, Int.sub_mul (wd x (j + 1))]
        omega
      · rw [h n h1 h2]
        by_cases h3 : j < n
        · have h4 : j + 1 < n := by omega
          rw [if_pos h3, if_pos h4, if_pos (by omega), if_pos (by omega), if_pos h3, if_pos h4, if_pos (by omega), if_pos (by omega)]
          omega
        · rw [if_neg h3, if_neg (by omega), if_neg (by omega), if_neg (by omega), if_neg h3, if_neg (by omega), if_neg (by omega), if_neg (by omega)]
          omega

theorem lay6_inj {m n : Int} (hm : 0 ≤ m ∧ m < 281474976710656) (hn : 0 ≤ n ∧ n < 281474976710656) (h : lay6 m = lay6 n) : m = n := by
  simp only [lay6, List.cons.injEq, and_true] at h
  omega

theorem zb_ext {x y : List Int} (hl : x.length = y.length) (h : ∀ i, i < x.length → zb x i = zb y i) : x = y := by
  apply List.ext_getElem hl
  intro i h1 h2
  have := h i h1
  simpa [zb, List.getElem?_eq_getElem h1, List.getElem?_eq_getElem h2] using this
theorem zb_take {x : List Int} {n i : Nat} (h : i < n) : zb (x.take n) i = zb x i := by
  unfold zb; rw [List.getElem?_take, if_pos h]

theorem closed84 {p : List Int} (hp : p.length = 84) : closed p = p ++ lay6 (sums p).1 ++ lay6 (sums p).2 := by
  unfold closed padded
  simp [hp]
theorem closed_zb1 {p : List Int} (hp : p.length = 84) {i : Nat} (hi : i < 6) : zb (closed p) (84 + i) = zb (lay6 (sums p).1) i := by
  rw [closed84 hp, zb_app_l (by simp [hp, lay6_length]; try omega), zb_app_r (by omega), hp]
  congr 1 <;> omega
theorem closed_zb2 {p : List Int} (hp : p.length = 84) {i : Nat} (hi : i < 6) : zb (closed p) (90 + i) = zb (lay6 (sums p).2) i := by
  rw [closed84 hp, zb_app_r (by simp [hp, lay6_length]; try omega)]
  congr 1 <;> (simp [hp, lay6_length] <;> try omega)
theorem closed_zb0 {p : List Int} (hp : p.length = 84) {i : Nat} (hi : i < 84) : zb (closed p) i = zb p i := by
  rw [closed84 hp, List.append_assoc, zb_app_l (by omega)]

/-- bodies of which the second sums are one, and the first ones, if the window is not at the end -/
theorem bodies_one {x y : List Int} (hx : IsBytes x) (hy : IsBytes y) (hxl : x.length = 84) (hyl : y.length = 84) {off : Nat} (ho : off < 84)
    (hsame : ∀ i, i < 84 → (i < off ∨ off + 4 ≤ i) → zb x i = zb y i) (h2 : (sums x).2 = (sums y).2) (h1 : off ≤ 80 → (sums x).1 = (sums y).1) : x = y := by
  have hw : ∀ k, k ≠ off / 4 → k ≠ off / 4 + 1 → wd x k = wd y k := by
    intro k k1 k2
    have hb : ∀ i, i < 4 → zb x (4 * k + i) = zb y (4 * k + i) := by
      intro i hi
      by_cases hk : k < 21
      · exact hsame _ (by omega) (by omega)
      · unfold zb; rw [List.getElem?_eq_none (by omega), List.getElem?_eq_none (by omega)]
    simp only [wd, pw]
    rw [hb 0 (by omega), hb 1 (by omega), hb 2 (by omega), hb 3 (by omega)]
  obtain ⟨j, hj⟩ : ∃ j, off / 4 = j := ⟨_, rfl⟩
  rw [hj] at hw
  have e := sums_two hw 21
  have q1 : sums x = (fs x 21, ss x 21) := by unfold sums; rw [hxl]; exact sm_plain hx 21 (by decide)
  have q2 : sums y = (fs y 21, ss y 21) := by unfold sums; rw [hyl]; exact sm_plain hy 21 (by decide)
  rw [q1, q2] at h1 h2
  simp only at h1 h2
  have key : wd x j = wd y j ∧ (j + 1 < 21 → wd x (j + 1) = wd y (j + 1)) := by
    by_cases hj2 : j + 1 < 21
    · rw [if_pos (by omega), if_pos hj2, if_pos (by omega), if_pos hj2] at e
      have h1 := h1 (by omega)
      obtain ⟨d, hd⟩ : ∃ d, wd x j - wd y j = d := ⟨_, rfl⟩
      obtain ⟨d', hd'⟩ : ∃ d, wd x (j + 1) - wd y (j + 1) = d := ⟨_, rfl⟩
      rw [hd, hd'] at e
      have m1 : d' * ((j : Int) + 2) = d' * ((j : Int) + 1) + d' := by rw [show ((j : Int) + 2) = ((j : Int) + 1) + 1 by omega, Int.mul_add d' ((j : Int) + 1) 1, Int.mul_one]
      have m2 : d = -d' := by omega
      have m3 : d * ((j : Int) + 1) = -(d' * ((j : Int) + 1)) := by rw [m2, Int.neg_mul]
      exact ⟨by omega, fun _ => by omega⟩
    · have hj3 : j = 20 := by omega
      subst hj3
      rw [if_pos (by omega), if_neg (by omega), if_pos (by omega), if_neg (by omega)] at e
      exact ⟨by omega, fun h => by omega⟩
  refine zb_ext (by omega) fun i hi => ?_
  have hall : wd x (i / 4) = wd y (i / 4) := by
    by_cases h3 : i / 4 = j
    · rw [h3]; exact key.1
    · by_cases h4 : i / 4 = j + 1
      · rw [h4]; exact key.2 (by omega)
      · exact hw _ h3 h4
  have := wd_bytes hx hy hall (i % 4) (by omega)
  rwa [show 4 * (i / 4) + i % 4 = i by omega] at this

theorem turned_opens {x t : List Int} (hx : IsBytes x) (hxl : x.length ≤ 84) (ht : IsBytes t) (htl : t.length = 96) {off : Nat}
    (hsame : ∀ i, i < 96 → (i < off ∨ off + 4 ≤ i) → zb t i = zb (closed x) i) (ho : closed (t.take 84) = t) : t = closed x := by
  have hp := padded_length hxl
  have hpb := padded_bytes hx
  have hc : closed x = closed (padded x) := (closed_padded hxl).symm
  rw [hc] at hsame ⊢
  generalize padded x = p at *
  have hq : (t.take 84).length = 84 := by simp; omega
  have hqb := ht.take 84
  have hzt : ∀ i, i < 84 → zb (t.take 84) i = zb t i := fun i hi => zb_take hi
  generalize t.take 84 = q at *
  subst ho
  suffices h : q = p by rw [h]
  by_cases h84 : 84 ≤ off
  · refine zb_ext (by omega) fun i hi => ?_
    rw [hzt i (by omega), hsame i (by omega) (by omega), closed_zb0 hp (by omega)]
  · have b1 := sums_bd hqb (by omega)
    have b2 := sums_bd hpb (by omega)
    refine bodies_one hqb hpb hq hp (off := off) (by omega) ?_ ?_ ?_
    · intro i hi h
      rw [hzt i hi, hsame i (by omega) h, closed_zb0 hp hi]
    · refine lay6_inj b1.2 b2.2 (zb_ext rfl fun i hi => ?_)
      rw [lay6_length] at hi
      rw [← closed_zb2 hq hi, ← closed_zb2 hp hi]
      exact hsame _ (by omega) (by omega)
    · intro h80
      refine lay6_inj b1.1 b2.1 (zb_ext rfl fun i hi => ?_)
      rw [lay6_length] at hi
      rw [← closed_zb1 hq hi, ← closed_zb1 hp hi]
      exact hsame _ (by omega) (by omega)

end Go.Proofs.YtleoelhhndeheaaGreat

/- whatever stands on a drum that goes is opened, or refused -/
open Go Go.RowKit
open Go.Maps (Keyed has)
namespace Go.Proofs.YtleoelhhndeheaaGreat

/-- what an opening sees on the home tracks, and how many there are -/
def rawH (s : DS) : Nat := (openedL s).H s
def rawT (s : DS) (k : Int) : List Int := if 0 ≤ k ∧ k < rawH s then view (openedL s) s k.toNat else []
theorem raw_opened {s : DS} (up : s.Up) (wf : s.Wf) (hn : 2 ≤ s.n) (hn2 : s.n ≤ 4096) (h : (readC s).1 ≠ 0) :
    ∃ s' L', s.openL = (0, L', s') ∧ L'.Ok s' ∧ L'.lost = false ∧ s'.broken = false ∧ L'.H s' = rawH s ∧ L'.lookZ s' = rawT s ∧ (∀ k : Int, 0 ≤ k ∧ k < rawH s → (rawT s k).length = 96 ∧ IsBytes (rawT s k)) := by
  have ok := (opened_ok wf hn hn2 h).1
  have hrd := readC_ok wf hn h
  obtain ⟨s', k1, k2⟩ := goHome_up up ok
  have kn := k2.n
  have hnow := k2.now
  have ol := ok.l
  have h1 : (openedL s).round = (readC s).1 := rfl
  have ok' : ({ openedL s with round := (openedL s).round + 1, used := 0, last := 0, taken := fun _ => none } : LS).Ok s' := ok.to kn rfl (by rw [h1]; show 0 ≤ (readC s).1 + 1 ∧ (readC s).1 + 1 < _; omega) (by show (0 : Int) ≤ 0 ∧ 0 ≤ (openedL s).leaves; omega) (by show (0 : Int) ≤ 0 ∧ (0 : Int) < _; omega) (.inr rfl)
  have hH : ({ openedL s with round := (openedL s).round + 1, used := 0, last := 0, taken := fun _ => none } : LS).H s' = rawH s := by unfold rawH LS.H; rw [kn]
  have hlo : (openedL s).lost = false := rfl
  have hbr : s'.broken = false := k2.up.broken
  refine ⟨s', _, by rw [openL_of up.broken h]; exact k1, ok', hlo, hbr, hH, funext fun k => ?_, fun k hk => ?_⟩
  · unfold LS.lookZ LS.lookC rawT
    rw [hH]
    by_cases hk : 0 ≤ k ∧ k < (rawH s : Int)
    · rw [if_pos hk, if_pos hk]
      simp only [hlo, hbr]
      have hr : (rawH s : Int) = (s.n : Int) - (2 + (openedL s).leaves) := by unfold rawH LS.H; omega
      simp
      rw [hnow, if_neg (by omega), if_pos ⟨by omega, by omega⟩, show (2 + (openedL s).leaves + k).toNat - (2 + (openedL s).leaves.toNat) = k.toNat by omega]
    · rw [if_neg hk, if_neg hk, if_neg (by decide)]
  · unfold rawT
    rw [if_pos hk]
    exact view_wf ok wf (by unfold rawH at hk; omega)

/-- what a vault's opening answers, whatever stands there -/
def RawAns (w : World) (M : Dom) (d : Nat) (s : DS) (e : Ending) (w' : World) : Prop :=
  (((readC s).1 = 0 ∨ loadV (rawT s) (rawH s) = none) ∧ e = .returned (.tuple #[.pointer none, .int .i64 11]) ∧ ∃ M', LStep M none' w M' none' w') ∨
  ((readC s).1 ≠ 0 ∧ ∃ M' B' C' l mb v s' L' R, e = .returned (.tuple #[.pointer (some ⟨v, 0, none⟩), .int .i64 0]) ∧ LStep M none' w M' (fun q => B' q ∨ C' q) w' ∧ VSys w' M' B' C' d l mb v s' L' R R ∧ L'.Lv s' ∧ L'.H s' = rawH s ∧ RcsOk R (rawH s) ∧ loadV (rawT s) (rawH s) = some R)
theorem openVRaw {w : World} {M : Dom} {d : Nat} {s : DS} (h : DrumAt w M d s) (up : s.Up) (wf : s.Wf) (hn : 2 ≤ s.n) (hn2 : s.n ≤ 4096) (hu : s.up.length < 300000000) :
    Calls Tryz.prog 18 #[.pointer (some ⟨d, 0, none⟩)] w (RawAns w M d s) := by
  by_cases h0 : (readC s).1 = 0
  · have ho : s.openL = (11, openedL s, s) := by unfold DS.openL; rw [up.broken, if_neg (by simp), if_pos h0]
    have OP := (open_any h hn hn2 hu).mono (R' := fun e w' => e = .returned (.tuple #[.pointer none, .int .i64 11]) ∧ ∃ M', LStep M none' w M' none' w') (by
      rintro e w' (⟨hx, -⟩ | ⟨-, M', rfl, D, LT⟩)
      · rw [ho] at hx; exact absurd hx (show ¬ ((11 : Int) = 0) by decide)
      · rw [ho]
        exact ⟨rfl, M', LT⟩)
    have H0 := hid h0
    clear h h0 ho
    go_enter Tryz.func18, Tryz.ntmps18
    go_wp2_with fail
    refine OP.mono ?_
    rintro e w1 ⟨rfl, M1, T1⟩
    have HT := hid T1
    clear T1 OP
    go_wp2_with fail
    go_ret2
    exact .inl ⟨.inl H0.out, rfl, M1, HT.out⟩
  · obtain ⟨s', L', ho, ok, hlo, hbr, hH, hz, hzw⟩ := raw_opened up wf hn hn2 h0
    have OP := (open_any h hn hn2 hu).mono (R' := fun e w' => ∃ M' B' l mb s3 L3, e = .returned (.tuple #[.pointer (some ⟨l, 0, none⟩), .int .i64 0]) ∧ LStep M none' w M' B' w' ∧ Rd w' M' B' d l mb s3 L3 (rawH s) ∧ (s3 = s' ∧ L3 = L')) (by
      rintro e w' (⟨-, M', B', l, mb, rfl, SY, LT⟩ | ⟨hx, -⟩)
      · rw [ho] at SY
        exact ⟨M', B', l, mb, s', L', rfl, LT, ⟨SY, ok, hlo, hbr, by rw [hH], fun k hk => by rw [hz]; exact hzw k (by omega)⟩, rfl, rfl⟩
      · rw [ho] at hx; exact absurd rfl hx)
    have H0 := hid h0
    clear h h0
    refine (openV_any (P := fun _ _ _ _ s2 L2 => s2 = s' ∧ L2 = L') (fun _ _ _ _ _ _ _ h => h) OP).mono ?_
    rintro e w' ⟨M', B', C', l, mb, s2, L2, T, ⟨rfl, rfl⟩, ⟨R, v, hl, rfl, VS, okR⟩ | ⟨hl, rfl, -⟩⟩
    · rw [hz] at hl
      exact .inr ⟨H0.out, M', B', C', l, mb, v, s2, L2, R, rfl, T, VS, ok.lv, hH, okR, hl⟩
    · rw [hz] at hl
      exact .inl ⟨.inr hl, rfl, M', T.forget⟩

end Go.Proofs.YtleoelhhndeheaaGreat

/- VaultTurned: what an opening sees of a drum on which a vault was closed, and of which one track was turned -/
open Go Go.RowKit
namespace Go.Proofs.YtleoelhhndeheaaGreat

theorem trk_closed {x : List Int} (h : x.length ≤ 84) : closed ((closed x).take 84) = closed x := by
  rw [closed_take h, closed_padded h]
theorem laidT_trk {R : Rcs} {H : Nat} (ok : RcsOk R H) {k : Int} {z : List Int} (h : laidT R k = some z) : closed (z.take 84) = z := by
  rcases laidT_some ok h with ⟨-, rfl⟩ | ⟨i, x, hx, j, hj, -, rfl⟩
  · exact trk_closed (by rw [listB_length]; decide)
  · exact trk_closed (by rw [recB_length]; have := List.length_take_le 80 (x.1.drop (80 * j)); omega)
theorem coverT_trk (r l : Int) : closed ((coverT r l).take 84) = coverT r l := by
  unfold coverT
  exact trk_closed (by unfold lay4 lay2; simp)
/-- a closed track that was turned in up to four bytes is no track, or itself -/
theorem turned_trk {c t : List Int} (hc : closed (c.take 84) = c) (hcl : c.length = 96) (hcb : IsBytes c) (ht : IsBytes t) (htl : t.length = 96) {off : Nat}
    (hs : ∀ i, i < 96 → (i < off ∨ off + 4 ≤ i) → zb t i = zb c i) (ho : closed (t.take 84) = t) : t = c := by
  have := turned_opens (x := c.take 84) (hcb.take 84) (by simp; omega) ht htl (off := off) (fun i hi h => by rw [hc]; exact hs i hi h) ho
  rwa [hc] at this

/-- what is loaded of tracks of which one was turned -/
theorem load_turned {T V : Int → List Int} {H off : Nat} {k0 : Int} {R R2 : Rcs} (ok : RcsOk R H) (hH : 0 < H ∧ H ≤ 4095) (hV : ∀ k z, laidT R k = some z → V k = z) (hoth : ∀ k, 0 ≤ k ∧ k < (H : Int) → k ≠ k0 → T k = V k)
    (h0 : 0 ≤ k0 ∧ k0 < (H : Int) → ((T k0).length = 96 ∧ IsBytes (T k0)) ∧ ∀ i, i < 96 → (i < off ∨ off + 4 ≤ i) → zb (T k0) i = zb (V k0) i) (h2 : loadV T H = some R2) (ok2 : RcsOk R2 H) : R2 = R := by
  have agr : ∀ k z, laidT R2 k = some z → T k = z := fun k z hz => by
    have hk := laidT_rng ok2 hH.1 (show (laidT R2 k).isSome by rw [hz]; rfl)
    unfold loadV at h2
    split at h2
    · split at h2
      · cases h2
      · split at h2
        · rename_i hag
          obtain rfl := Option.some.inj h2
          have := List.all_eq_true.1 hag k.toNat (List.mem_range.2 (by omega))
          rw [show ((k.toNat : Nat) : Int) = k by omega, hz] at this
          exact of_decide_eq_true this
        · cases h2
    · cases h2
  have same : (∀ k z, laidT R k = some z → T k = z) → R2 = R := fun h => by
    rw [loadV_laid ok hH.2 h] at h2
    exact (Option.some.inj h2).symm
  cases hr : laidT R k0 with
  | none =>
    refine same fun k z hz => ?_
    rw [hoth k (laidT_rng ok hH.1 (by rw [hz]; rfl)) (fun e => by subst e; rw [hr] at hz; cases hz)]
    exact hV k z hz
  | some z0 =>
    have hk0 := laidT_rng ok hH.1 (show (laidT R k0).isSome by rw [hr]; rfl)
    cases hr2 : laidT R2 k0 with
    | none =>
      have e1 := loadV_laid ok hH.2 hV
      have e2 := loadV_laid ok2 hH.2 (T := V) (fun k z hz => by
        rw [← hoth k (laidT_rng ok2 hH.1 (by rw [hz]; rfl)) (fun e => by subst e; rw [hr2] at hz; cases hz)]
        exact agr k z hz)
      rw [e1] at e2
      exact (Option.some.inj e2).symm
    | some z =>
      obtain ⟨⟨q1, q2⟩, q3⟩ := h0 hk0
      have e0 := hV k0 z0 hr
      have ez := agr k0 z hr2
      have wf0 := laidT_wf ok hr
      have et : T k0 = z0 := turned_trk (laidT_trk ok hr) wf0.1 wf0.2 q2 q1 (off := off) (fun i hi h => by rw [← e0]; exact q3 i hi h) (by rw [ez]; exact laidT_trk ok2 hr2)
      refine same fun k z' hz => ?_
      by_cases hk : k = k0
      · subst hk
        rw [hr] at hz
        rw [et]
        exact Option.some.inj hz
      · rw [hoth k (laidT_rng ok hH.1 (by rw [hz]; rfl)) hk]
        exact hV k z' hz

/-- a drum on which a ledger was brought home -/
structure Clo (s : DS) (r lv : Int) (P : List (List Ent)) (V : Nat → List Int) (n : Nat) : Prop where
  up : s.Up
  wf : s.Wf
  sz : s.n = n
  n2 : n ≤ 4096
  quiet : s.up = []
  l : 5 ≤ lv ∧ lv + 4 ≤ n
  rb : 0 < r ∧ r < 4294950000
  c1 : s.now ((r + 1) % 2).toNat = coverT (r + 1) lv
  c0 : s.now (r % 2).toNat = coverT r lv
  lvs : ∃ rest, s.leavesOf lv = postsFrom r 1 P ++ rest ∧ ∀ z ∈ rest, Stale r z
  p : ∀ e ∈ P, PostOk e ((n : Int) - (2 + lv))
  hm : ∀ k : Nat, (k : Int) < n - (2 + lv) → s.now (2 + lv.toNat + k) = V k
  sn : ∀ (k : Nat) z, (k : Int) < n - (2 + lv) → tknP P k = some z → V k = z
theorem Full.clo {L : LS} {s : DS} {P : List (List Ent)} (f : Full L s P) (hr : L.round < 4294950000) : ∃ s', L.balance s = (0, L.next, s') ∧ Clo s' L.round L.leaves P (view L s) s.n ∧ s'.kept = s'.now := by
  obtain ⟨h1, h2⟩ := f.settle
  have hl := f.g.ok.l
  have hn := f.g.ok.n1
  obtain ⟨s', k1, k2⟩ := goHome_up h2.g.up h2.g.ok
  have hnow := k2.now
  have hsn : s.settle1.n = s.n := rfl
  have hsw : s.settle1.now = s.now := rfl
  have hH : ((L.H s : Nat) : Int) = (s.n : Int) - (2 + L.leaves) := by unfold LS.H; omega
  refine ⟨s', ?_, ⟨k2.up, k2.wf h2.g.ok h2.g.wf, k2.n, hn, k2.none, hl, ⟨f.g.r.1, hr⟩, ?_, ?_, ?_, fun e he => by rw [← hH]; exact f.g.p e he, fun k hk => ?_, fun k z hk hz => ?_⟩, k2.kept⟩
  · unfold LS.balance
    rw [h1, if_pos rfl]
    simp only
    rw [k1]
    show (0, LS.ends _ 0, s') = _
    rw [ends_zero]
    rfl
  · rw [hnow, if_pos rfl]
  · rw [hnow, if_neg (by have := f.g.r; omega), if_neg (by omega), hsw, f.g.c]
  · obtain ⟨rest, g1, g2⟩ := f.g.lv
    refine ⟨rest, ?_, g2⟩
    rw [← g1]
    unfold DS.leavesOf
    refine List.map_congr_left fun k hk => ?_
    have := List.mem_range.1 hk
    rw [hnow, if_neg (by omega), if_neg (by omega), hsw]
  · rw [hnow, if_neg (by omega), if_pos ⟨by omega, by omega⟩, show 2 + L.leaves.toNat + k - (2 + L.leaves.toNat) = k by omega]
    rfl
  · unfold view
    have : L.taken = tknP P := f.g.tk
    rw [this, hz]

section
variable {s s2 : DS} {r lv : Int} {P : List (List Ent)} {V : Nat → List Int} {n t off : Nat} {z : List Int}
theorem Clo.leaf (c : Clo s r lv P V n) {k : Nat} (hk : k < lv.toNat) : Stale (r + 1) (s.now (2 + k)) := by
  obtain ⟨rest, h1, h2⟩ := c.lvs
  have hr := c.rb
  have hm : s.now (2 + k) ∈ s.leavesOf lv := List.mem_map.2 ⟨k, List.mem_range.2 hk, rfl⟩
  rw [h1] at hm
  rcases List.mem_append.1 hm with hm | hm
  · exact (posts_stale ⟨by omega, by omega⟩ P 1 c.p _ hm).1
  · exact (h2 _ hm).le (by omega)
theorem dead_turned {x y : List Int} (hr : 0 ≤ r ∧ r < 4294967296) (hx : x.length = 96) (hy : y.length = 96) (h : Stale r x) (hs : ∀ i, i < 96 → (i < off ∨ off + 4 ≤ i) → zb y i = zb x i) : Dead r y := by
  intro no b count k hb e
  have key : ∀ i, i ≤ 92 → (∀ j, j < 4 → zb y (i + j) = zb x (i + j)) → cut y i 4 = cut x i 4 := fun i hi h => by
    rw [cut4_eq hy i hi, cut4_eq hx i hi, h 1 (by omega), h 2 (by omega), h 3 (by omega)]
    have := h 0 (by omega)
    rw [Nat.add_zero] at this
    rw [this]
  by_cases ho : 4 ≤ off
  · have h1 := key 0 (by omega) (fun j hj => hs _ (by omega) (.inl (by omega)))
    have h2 := h.1
    rw [← h1, e, (leafB_head hb).1, num_lay4 hr] at h2
    omega
  · have h1 := key 80 (by omega) (fun j hj => hs _ (by omega) (.inr (by omega)))
    have h2 := h.2
    rw [← h1, e, leafB_tail hb, num_lay4 hr] at h2
    omega
/-- what is seen of it -/
theorem Clo.turned (c : Clo s r lv P V n) (up2 : s2.Up) (hn2 : s2.n = n) (ht : t < n) (hnow : ∀ j, s2.now j = if j = t then z else s.now j) (hz : z.length = 96 ∧ IsBytes z) (hs : ∀ i, i < 96 → (i < off ∨ off + 4 ≤ i) → zb z i = zb (s.now t) i) :
    (rawH s2 : Int) = n - (2 + lv) ∧ ∃ k0 : Int, (∀ k : Int, 0 ≤ k ∧ k < rawH s2 → k ≠ k0 → rawT s2 k = V k.toNat) ∧ (0 ≤ k0 ∧ k0 < rawH s2 → ((rawT s2 k0).length = 96 ∧ IsBytes (rawT s2 k0)) ∧ ∀ i, i < 96 → (i < off ∨ off + 4 ≤ i) → zb (rawT s2 k0) i = zb (V k0.toNat) i) := by
  have hl := c.l
  have hr := c.rb
  have hn4 := c.n2
  have hsn := c.sz
  have hV : ∀ k : Nat, (k : Int) < n - (2 + lv) → (V k).length = 96 ∧ IsBytes (V k) := fun k hk => by rw [← c.hm k hk]; exact c.wf _ (by omega)
  have htw := c.wf t (by omega)
  by_cases hB : t = ((r + 1) % 2).toNat ∧ z ≠ coverT (r + 1) lv
  · obtain ⟨rfl, hne⟩ := hB
    have hrd : readC s2 = (r, lv) := by
      refine readC_of ⟨hr.1, by omega⟩ ⟨hl.1, by omega, by omega⟩ (by rw [hnow, if_neg (by omega), c.c0]) (fun hc => ?_)
      exfalso
      unfold isCover at hc
      rw [Bool.and_eq_true, Bool.and_eq_true, decide_eq_true_eq, decide_eq_true_eq] at hc
      obtain ⟨-, -, hc⟩ := hc
      rw [hnow, if_pos rfl] at hc
      refine hne (turned_trk (coverT_trk _ _) (coverT_length _ _) (coverT_bytes _ _) hz.2 hz.1 (off := off) (fun i hi h => by rw [hs i hi h, c.c1]) ?_)
      rw [← hc]
      exact coverT_trk _ _
    have hlv : s2.leavesOf lv = s.leavesOf lv := by
      unfold DS.leavesOf
      refine List.map_congr_left fun k hk => ?_
      rw [hnow, if_neg (by omega)]
    have hH : (rawH s2 : Int) = n - (2 + lv) := by unfold rawH LS.H; rw [show (openedL s2).leaves = (readC s2).2 from rfl, hrd, hn2]; simp only; omega
    have htk : (openedL s2).taken = tknP P := by
      show readL (readC s2).1 ((s2.n : Int) - (2 + (readC s2).2)) ((readC s2).2.toNat + 1) (s2.leavesOf (readC s2).2) 1 (fun _ => none) = _
      rw [hrd]
      simp only
      obtain ⟨rest, h1, h2⟩ := c.lvs
      have hw : ∀ x ∈ s.leavesOf lv, x.length = 96 := fun x hx => by
        obtain ⟨k, hk, rfl⟩ := List.mem_map.1 hx
        have := List.mem_range.1 hk
        exact (c.wf _ (by omega)).1
      have hlen := leavesOf_len s lv
      have hp := posts_least (r := r) P 1 c.p
      rw [h1, List.length_append] at hlen
      rw [hlv, h1, hn2]
      exact readL_rest P _ 1 _ rest c.p (whole_stale ⟨by omega, by omega⟩ h2 (fun x hx => hw x (by rw [h1]; exact List.mem_append_right _ hx)) _ _ (by omega)) (by omega)
    have hT : ∀ k : Int, 0 ≤ k ∧ k < rawH s2 → rawT s2 k = V k.toNat := fun k hk => by
      unfold rawT
      rw [if_pos hk]
      unfold view
      rw [htk, show (openedL s2).leaves = lv by show (readC s2).2 = lv; rw [hrd]]
      cases hh : tknP P (k.toNat : Int) with
      | some y => exact (c.sn _ _ (by omega) hh).symm
      | none =>
        show s2.now _ = _
        rw [hnow, if_neg (by omega)]
        exact c.hm _ (by omega)
    exact ⟨hH, -1, fun k hk _ => hT k hk, fun h => by omega⟩
  · have hc1 : s2.now ((r + 1) % 2).toNat = coverT (r + 1) lv := by
      rw [hnow]
      by_cases e : ((r + 1) % 2).toNat = t
      · rw [if_pos e]
        exact Classical.byContradiction fun h => hB ⟨e.symm, h⟩
      · rw [if_neg e, c.c1]
    have hrd : readC s2 = (r + 1, lv) := by
      refine readC_of ⟨by omega, by omega⟩ ⟨hl.1, by omega, by omega⟩ hc1 (fun hc => ?_)
      rw [show ((r + 1 + 1) % 2).toNat = (r % 2).toNat by omega] at hc ⊢
      have e : s2.now (r % 2).toNat = coverT r lv := by
        rw [hnow]
        by_cases e : (r % 2).toNat = t
        · rw [if_pos e]
          unfold isCover at hc
          rw [Bool.and_eq_true, Bool.and_eq_true, decide_eq_true_eq, decide_eq_true_eq] at hc
          obtain ⟨-, -, hc⟩ := hc
          rw [hnow, if_pos e] at hc
          refine turned_trk (coverT_trk _ _) (coverT_length _ _) (coverT_bytes _ _) hz.2 hz.1 (off := off) (fun i hi h => by rw [hs i hi h, ← e, c.c0]) ?_
          rw [← hc]
          exact coverT_trk _ _
        · rw [if_neg e, c.c0]
      rw [e, coverT_round, num_lay4 ⟨by omega, by omega⟩]
      omega
    have hH : (rawH s2 : Int) = n - (2 + lv) := by unfold rawH LS.H; rw [show (openedL s2).leaves = (readC s2).2 from rfl, hrd, hn2]; simp only; omega
    have htk : (openedL s2).taken = fun _ => none := by
      show readL (readC s2).1 ((s2.n : Int) - (2 + (readC s2).2)) ((readC s2).2.toNat + 1) (s2.leavesOf (readC s2).2) 1 (fun _ => none) = _
      rw [hrd]
      simp only
      obtain ⟨p, rest, -, h1, h2, -⟩ := read_mix (r := r + 1) (H := (s2.n : Int) - (2 + lv)) ⟨by omega, by omega⟩ (by omega) [] (lv.toNat + 1) 1 (fun _ => none) (s2.leavesOf lv) 0 (fun e he => by cases he) (Nat.le_refl _) (fun j x hj => .inr (by
        unfold DS.leavesOf at hj
        rw [List.getElem?_map] at hj
        have hjl : j < lv.toNat := by
          refine Classical.byContradiction fun h => ?_
          rw [List.getElem?_eq_none (by rw [List.length_range]; omega)] at hj
          cases hj
        rw [List.getElem?_range hjl] at hj
        obtain rfl : s2.now (2 + j) = x := by simpa using hj
        have st := c.leaf hjl
        rw [hnow]
        by_cases e : 2 + j = t
        · rw [if_pos e]
          refine dead_turned ⟨by omega, by omega⟩ (c.wf (2 + j) (by omega)).1 hz.1 st (off := off) (fun i hi h => by rw [e]; exact hs i hi h)
        · rw [if_neg e]
          exact st.dead ⟨by omega, by omega⟩)) (fun j hj => by simp [postsFrom] at hj) (by rw [leavesOf_len]; omega)
      rw [h2, show p = 0 by simpa using h1]
      rfl
    have hT : ∀ k : Int, 0 ≤ k ∧ k < rawH s2 → rawT s2 k = if 2 + lv.toNat + k.toNat = t then z else V k.toNat := fun k hk => by
      unfold rawT
      rw [if_pos hk]
      unfold view
      rw [htk, show (openedL s2).leaves = lv by show (readC s2).2 = lv; rw [hrd]]
      show s2.now _ = _
      rw [hnow, c.hm _ (by omega)]
    refine ⟨hH, (t : Int) - (2 + lv), fun k hk hne => by rw [hT k hk, if_neg (by omega)], fun hk => ?_⟩
    rw [hT _ hk, if_pos (by omega)]
    refine ⟨hz, fun i hi h => ?_⟩
    rw [hs i hi h, ← c.hm _ (by omega), show 2 + lv.toNat + ((t : Int) - (2 + lv)).toNat = t by omega]
end

end Go.Proofs.YtleoelhhndeheaaGreat
