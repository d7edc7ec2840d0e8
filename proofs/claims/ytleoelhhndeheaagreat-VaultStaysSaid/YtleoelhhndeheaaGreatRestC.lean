import Derived.Test.YtleoelhhndeheaaGreatGoodD
/- package ledger: leaves that fell: old, whole, or torn; what is read of them -/
open Go Go.RowKit
namespace Go.Proofs.YtleoelhhndeheaaGreat

theorem cut4_eq {z : List Int} (hz : z.length = 96) (i : Nat) (hi : i ≤ 92) : cut z i 4 = [zb z i, zb z (i + 1), zb z (i + 2), zb z (i + 3)] := by
  have h1 : (cut z i 4).length = 4 := by unfold cut; rw [List.length_take, List.length_drop]; omega
  have hg : ∀ j, j < 4 → (cut z i 4)[j]? = some (zb z (i + j)) := fun j hj => by
    unfold cut zb
    rw [List.getElem?_take, if_pos hj, List.getElem?_drop, List.getElem?_eq_getElem (by omega)]
    rfl
  have h0 := hg 0 (by omega)
  have h1' := hg 1 (by omega)
  have h2 := hg 2 (by omega)
  have h3 := hg 3 (by omega)
  generalize cut z i 4 = l at *
  match l, h1 with
  | [a, b, c, d], _ =>
    simp at h0 h1' h2 h3
    rw [h0, h1', h2, h3]
theorem num_four (a b c d : Int) : num [a, b, c, d] = ((a * 256 + b) * 256 + c) * 256 + d := by
  unfold num
  show ((((0 * 256 + zb [a, b, c, d] (0 + 0)) * 256 + zb [a, b, c, d] (0 + 1)) * 256 + zb [a, b, c, d] (0 + 2)) * 256 + zb [a, b, c, d] (0 + 3)) = _
  unfold zb
  simp
/-- some bytes of one track, and the others of another one -/
def tornZ (c : Nat) (y x : List Int) : List Int := y.take c ++ x.drop c
theorem tornZ_len {y x : List Int} (hy : y.length = 96) (hx : x.length = 96) (c : Nat) : (tornZ c y x).length = 96 := by
  unfold tornZ; rw [List.length_append, List.length_take, List.length_drop]; omega
theorem tornZ_bytes {y x : List Int} (hy : IsBytes y) (hx : IsBytes x) (c : Nat) : IsBytes (tornZ c y x) := fun n hn => by
  unfold tornZ at hn
  rcases List.mem_append.1 hn with h | h
  · exact hy n (List.mem_of_mem_take h)
  · exact hx n (List.mem_of_mem_drop h)
theorem zb_torn {y x : List Int} (hy : y.length = 96) (hx : x.length = 96) (c j : Nat) (hj : j < 96) : zb (tornZ c y x) j = if j < c then zb y j else zb x j := by
  unfold tornZ zb
  by_cases h : j < c
  · rw [if_pos h, List.getElem?_append_left (by rw [List.length_take]; omega), List.getElem?_take, if_pos h]
  · rw [if_neg h, List.getElem?_append_right (by rw [List.length_take]; omega), List.getElem?_drop, List.length_take]
    congr 2
    omega
/-- the four bytes of a small number -/
theorem small4 {z : List Int} (hz : z.length = 96) (hb : IsBytes z) {i : Nat} (hi : i ≤ 92) {r : Int} (hr : r ≤ 256) (h : num (cut z i 4) < r) : zb z i = 0 ∧ zb z (i + 1) = 0 ∧ zb z (i + 2) = 0 ∧ 0 ≤ zb z (i + 3) ∧ zb z (i + 3) < r := by
  rw [cut4_eq hz i hi, num_four] at h
  have h0 := zb_bd hb i
  have h1 := zb_bd hb (i + 1)
  have h2 := zb_bd hb (i + 2)
  have h3 := zb_bd hb (i + 3)
  omega
theorem small4_of {z : List Int} (hz : z.length = 96) {i : Nat} (hi : i ≤ 92) {r : Int} (h : zb z i = 0 ∧ zb z (i + 1) = 0 ∧ zb z (i + 2) = 0 ∧ 0 ≤ zb z (i + 3) ∧ zb z (i + 3) < r) : num (cut z i 4) < r := by
  rw [cut4_eq hz i hi, num_four]
  omega
/-- four bytes of a small number, torn -/
theorem small_torn {y x : List Int} (hy : y.length = 96) (hx : x.length = 96) (by_ : IsBytes y) (bx : IsBytes x) {i : Nat} (hi : i ≤ 92) {r : Int} (hr : r ≤ 256) (h : num (cut y i 4) < r) (k : num (cut x i 4) < r) (c : Nat) : num (cut (tornZ c y x) i 4) < r := by
  have h1 := small4 hy by_ hi hr h
  have h2 := small4 hx bx hi hr k
  refine small4_of (tornZ_len hy hx c) hi ?_
  rw [zb_torn hy hx c i (by omega), zb_torn hy hx c (i + 1) (by omega), zb_torn hy hx c (i + 2) (by omega), zb_torn hy hx c (i + 3) (by omega)]
  refine ⟨?_, ?_, ?_, ?_, ?_⟩ <;> split <;> omega
theorem stale_torn {y x : List Int} (hy : y.length = 96) (hx : x.length = 96) (by_ : IsBytes y) (bx : IsBytes x) {r : Int} (hr : r ≤ 256) (h : Stale r y) (k : Stale r x) (c : Nat) : Stale r (tornZ c y x) :=
  ⟨small_torn hy hx by_ bx (by omega) hr h.1 k.1 c, small_torn hy hx by_ bx (by omega) hr h.2 k.2 c⟩
theorem Stale.le {r r' : Int} {z : List Int} (h : Stale r z) (hr : r ≤ r') : Stale r' z := ⟨by have := h.1; omega, by have := h.2; omega⟩

/-- no leaf of this round -/
def Dead (r : Int) (z : List Int) : Prop := ∀ (no : Int) (b : List Int) (count k : Nat), k * 64 + 64 ≤ b.length → z ≠ leafB r no b count k
theorem Stale.dead {r : Int} (hr : 0 ≤ r ∧ r < 4294967296) {z : List Int} (h : Stale r z) : Dead r z := fun no b count k hb e => by
  have := h.1
  rw [e, (leafB_head hb).1, num_lay4 hr] at this
  omega
theorem leafB_body {r no : Int} {b : List Int} {count k : Nat} (hb : k * 64 + 64 ≤ b.length) : leafB r no b count k = closed ((leafB r no b count k).take 84) ∧ (leafB r no b count k).length = 96 := by
  have hl := leafB_length' b r no count k (cut_length hb)
  have key : ∀ zs : List Int, zs.length = 84 → closed zs = closed ((closed zs).take 84) := fun zs hz => by
    have hp : padded zs = zs := by unfold padded; rw [hz]; simp
    have : (closed zs).take 84 = zs := by unfold closed; rw [hp, List.append_assoc, List.take_append_of_le_length (by omega), List.take_of_length_le (by omega)]
    rw [this]
  refine ⟨?_, ?_⟩
  · unfold leafB
    exact key _ hl
  · unfold leafB
    exact closed_length (by rw [hl]; decide)
/-- a torn leaf is the new one, or none -/
theorem torn_leaf {r no : Int} {b : List Int} {count k : Nat} (hb : k * 64 + 64 ≤ b.length) (hr : 0 ≤ r ∧ r < 256) {x : List Int} (hx : x.length = 96) (bx : IsBytes x) (h : Stale r x) (c : Nat) : tornZ c (leafB r no b count k) x = leafB r no b count k ∨ Dead r (tornZ c (leafB r no b count k) x) := by
  obtain ⟨y, hy⟩ : ∃ y, leafB r no b count k = y := ⟨_, rfl⟩
  have hb1 := leafB_body (r := r) (no := no) (count := count) hb
  rw [hy] at hb1 ⊢
  by_cases hd : Dead r (tornZ c y x)
  · exact .inr hd
  · left
    unfold Dead at hd
    simp only [Classical.not_forall] at hd
    obtain ⟨no', b', count', k', hb', hd⟩ := hd
    have hd : tornZ c y x = leafB r no' b' count' k' := Classical.byContradiction fun h => hd h
    have hl := tornZ_len hb1.2 hx c
    by_cases hc : 84 ≤ c
    · have h2 := leafB_body (r := r) (no := no') (count := count') hb'
      rw [← hd] at h2
      have e : (tornZ c y x).take 84 = y.take 84 := by
        unfold tornZ
        rw [List.take_append_of_le_length (by rw [List.length_take]; omega), List.take_take, show min 84 c = 84 by omega]
      rw [h2.1, e, ← hb1.1]
    · exfalso
      have h3 := leafB_tail (r := r) (no := no') (count := count') hb'
      rw [← hd] at h3
      have h4 := cut4_eq hl 80 (by omega)
      rw [h3] at h4
      have h5 := small4 hx bx (i := 80) (by omega) (by omega) h.2
      have h6 := zb_torn hb1.2 hx c (80 + 3) (by omega)
      rw [if_neg (by omega)] at h6
      unfold lay4 at h4
      simp only [List.cons.injEq] at h4
      have h7 := h4.2.2.2.1
      omega

/-- what is read of leaves of which each is the one that was laid there, or none of this round -/
theorem read_mix {r H : Int} (hr : 0 ≤ r ∧ r < 4294967296) (hH : H ≤ 65536) : ∀ (P : List (List Ent)) (f : Nat) (no : Int) (T : Tkn) (ls : List (List Int)) (p0 : Nat), (∀ e ∈ P, PostOk e H) → p0 ≤ P.length →
    (∀ (j : Nat) z, ls[j]? = some z → (postsFrom r no P)[j]? = some z ∨ Dead r z) → (∀ j, j < (postsFrom r no (P.take p0)).length → ls[j]? = (postsFrom r no P)[j]?) → ls.length < f →
    ∃ p rest, p0 ≤ p ∧ p ≤ P.length ∧ readL r H f ls no T = (P.take p).foldl putL T ∧ ls = postsFrom r no (P.take p) ++ rest ∧ wholeN rest r (no + p) H = 0
  | P, 0, no, T, ls, p0, hP, hp, hd, hi, hf => by omega
  | P, f + 1, no, T, ls, p0, hP, hp, hd, hi, hf => by
    have hR : readL r H (f + 1) ls no T = if wholeN ls r no H = 0 then T else readL r H f (ls.drop (wholeN ls r no H)) (no + 1) (putL T (wholeE ls r no H)) := rfl
    by_cases hw : wholeN ls r no H = 0
    · refine ⟨0, ls, ?_, Nat.zero_le _, ?_, rfl, by rw [show no + ((0 : Nat) : Int) = no by omega]; exact hw⟩
      · rcases Nat.eq_zero_or_pos p0 with h | h
        · omega
        · exfalso
          match P, hp, hP, hd, hi with
          | [], hp, _, _, _ => simp at hp; omega
          | e :: P, hp, hP, hd, hi =>
            obtain ⟨q, rfl⟩ : ∃ q, p0 = q + 1 := ⟨p0 - 1, by omega⟩
            have he := hP e (List.mem_cons_self ..)
            have h0 := he.pad.2.1
            have hlen : (postL r no e).length = postN e := postL_len r no e
            have hpre : ls = postL r no e ++ ls.drop (postN e) := by
              have hgt : ∀ j, j < postN e → ls[j]? = (postL r no e)[j]? := fun j hj => by
                rw [hi j (by rw [List.take_succ_cons]; show j < (postL r no e ++ _).length; rw [List.length_append]; omega)]
                show (postL r no e ++ _)[j]? = _
                rw [List.getElem?_append_left (by omega)]
              have ht : ls.take (postN e) = postL r no e := by
                apply List.ext_getElem?
                intro j
                rw [List.getElem?_take]
                by_cases hj : j < postN e
                · rw [if_pos hj, hgt j hj]
                · rw [if_neg hj, List.getElem?_eq_none (by omega)]
              rw [← ht, List.take_append_drop]
            rw [hpre, (whole_post he r no _).1] at hw
            omega
      · rw [hR, if_pos hw]; rfl
    · -- the head is whole
      have hw2 : isWhole ls r no H = true := by
        by_cases h : isWhole ls r no H = true
        · exact h
        · exact absurd (by unfold wholeN; rw [if_neg h]) hw
      have hw3 := hw2
      unfold isWhole at hw3
      rw [Bool.and_eq_true, Bool.and_eq_true, decide_eq_true_eq, decide_eq_true_eq] at hw3
      obtain ⟨⟨h1, h2, h3⟩, hm, he⟩ := hw3
      have hpos : 0 < (entriesL (ls.take (tells ls))).length := by
        unfold mayE at hm
        rw [Bool.and_eq_true, decide_eq_true_eq] at hm
        exact hm.2
      have hmem := mayE_mem hm
      generalize hE : entriesL (ls.take (tells ls)) = E at *
      have hok : EntsOk E := fun x hx => ⟨⟨(hmem x hx).1, by have := (hmem x hx).2.1; omega⟩, (hmem x hx).2.2⟩
      have hn0 : 0 < postN E := by unfold postN; rw [postN_eq hpos]; show 0 < (2 + E.length * 98 + 63) / 64; omega
      have hpd : (padE E (postN E)).length = postN E * 64 := by
        refine padE_length hok ?_
        unfold postN
        rw [postN_eq hpos]
        show _ ≤ (2 + E.length * 98 + 63) / 64 * 64
        omega
      have hEn : postN E = tells ls := by
        have := congrArg List.length he
        rw [postL_len, List.length_take] at this
        omega
      -- no leaf of it is dead
      have hleaf : ∀ j, j < tells ls → ∃ z, ls[j]? = some z ∧ z = leafB r no (padE E (postN E)) (postN E) j := fun j hj => by
        have h4 : (postL r no E)[j]? = some (leafB r no (padE E (postN E)) (postN E) j) := by
          unfold postL
          rw [List.getElem?_map, List.getElem?_range (by omega)]
          rfl
        rw [he, List.getElem?_take, if_pos hj] at h4
        exact ⟨_, h4, rfl⟩
      have hsame : ∀ j, j < tells ls → ls[j]? = (postsFrom r no P)[j]? := fun j hj => by
        obtain ⟨z, hz, hzl⟩ := hleaf j hj
        rcases hd j z hz with h | h
        · rw [hz, h]
        · exact absurd hzl (h no _ _ j (by rw [hpd]; have : (j + 1) * 64 ≤ postN E * 64 := Nat.mul_le_mul_right _ (by omega); omega))
      match P, hP, hp, hd, hi, hsame with
      | [], hP, hp, hd, hi, hsame =>
        exfalso
        have h4 := hsame 0 (by omega)
        obtain ⟨z, hz, -⟩ := hleaf 0 (by omega)
        rw [hz] at h4
        simp [postsFrom] at h4
      | e0 :: P, hP, hp, hd, hi, hsame =>
        have he0 := hP e0 (List.mem_cons_self ..)
        have hp0 := he0.pad
        have hlen0 : (postL r no e0).length = postN e0 := postL_len r no e0
        have hn : postN e0 = tells ls := by
          obtain ⟨z, hz, hzl⟩ := hleaf 0 (by omega)
          have h4 := hsame 0 (by omega)
          rw [hz] at h4
          have h5 : (postsFrom r no (e0 :: P))[0]? = some (leafB r no (padE e0 (postN e0)) (postN e0) 0) := by
            show (postL r no e0 ++ _)[0]? = _
            rw [List.getElem?_append_left (by omega)]
            unfold postL
            rw [List.getElem?_map, List.getElem?_range (by omega)]
            rfl
          rw [h5] at h4
          have h6 : z = _ := Option.some.inj h4
          rw [hzl] at h6
          have h7 := (leafB_head (r := r) (no := no) (count := postN E) (k := 0) (b := padE E (postN E)) (by rw [hpd]; omega)).2.1
          rw [h6, (leafB_head (r := r) (no := no) (count := postN e0) (k := 0) (b := padE e0 (postN e0)) (by rw [hp0.1]; omega)).2.1] at h7
          have h8 := congrArg num h7
          rw [num_lay2 (by omega)] at h8
          have h9 : ((postN E : Nat) : Int) < 65536 := by
            have h10 := (leafB_head (r := r) (no := no) (count := postN E) (k := 0) (b := padE E (postN E)) (by rw [hpd]; omega)).2.1
            have h11 : tells ls = (num (cut z 10 2)).toNat := by
              unfold tells
              cases ls with
              | nil => simp at h1
              | cons a l => simp at hz; subst hz; rfl
            rw [hzl, h10] at h11
            have h12 : num (lay2 ((postN E : Nat) : Int)) < 65536 := by unfold lay2 num; show ((0 * 256 + zb _ (0 + 0)) * 256 + zb _ (0 + 1)) < 65536; unfold zb; simp; omega
            omega
          rw [num_lay2 (by omega)] at h8
          omega
        have hpre : ls = postL r no e0 ++ ls.drop (postN e0) := by
          have ht : ls.take (postN e0) = postL r no e0 := by
            apply List.ext_getElem?
            intro j
            rw [List.getElem?_take]
            by_cases hj : j < postN e0
            · rw [if_pos hj, hsame j (by omega)]
              show (postL r no e0 ++ _)[j]? = _
              rw [List.getElem?_append_left (by omega)]
            · rw [if_neg hj, List.getElem?_eq_none (by omega)]
          rw [← ht, List.take_append_drop]
        obtain ⟨w1, w2⟩ := whole_post he0 r no (ls.drop (postN e0))
        rw [← hpre] at w1 w2
        have hsplit : postsFrom r no (e0 :: P) = postL r no e0 ++ postsFrom r (no + 1) P := rfl
        have hdr : ∀ j, (ls.drop (postN e0))[j]? = ls[postN e0 + j]? := fun j => by rw [List.getElem?_drop]
        have hpr : ∀ j, (postsFrom r no (e0 :: P))[postN e0 + j]? = (postsFrom r (no + 1) P)[j]? := fun j => by
          rw [hsplit, List.getElem?_append_right (by omega)]
          congr 1
          omega
        obtain ⟨p, rest, q1, q2, q3, q4, q5⟩ := read_mix hr hH P f (no + 1) (putL T e0) (ls.drop (postN e0)) (p0 - 1) (fun x hx => hP x (List.mem_cons_of_mem _ hx)) (by simp at hp; omega)
          (fun j z hz => by
            rw [hdr] at hz
            rw [← hpr]
            exact hd _ z hz)
          (fun j hj => by
            rw [hdr, ← hpr]
            rcases Nat.eq_zero_or_pos p0 with h | h
            · rw [h] at hj; simp [postsFrom] at hj
            · refine hi _ ?_
              obtain ⟨q, rfl⟩ : ∃ q, p0 = q + 1 := ⟨p0 - 1, by omega⟩
              rw [List.take_succ_cons]
              show _ < (postL r no e0 ++ postsFrom r (no + 1) (P.take q)).length
              rw [List.length_append]
              simp only [Nat.add_sub_cancel] at hj
              omega)
          (by rw [List.length_drop]; omega)
        refine ⟨p + 1, rest, by omega, by simp; omega, ?_, ?_, ?_⟩
        · rw [hR, if_neg hw, w1, w2, q3, List.take_succ_cons]
          rfl
        · rw [List.take_succ_cons]
          show ls = (postL r no e0 ++ postsFrom r (no + 1) (P.take p)) ++ rest
          rw [List.append_assoc, ← q4]
          exact hpre
        · rw [show no + ((p + 1 : Nat) : Int) = no + 1 + p by omega]
          exact q5

end Go.Proofs.YtleoelhhndeheaaGreat

/- package ledger: what stands on a drum that fell, and its opening -/
open Go Go.RowKit
namespace Go.Proofs.YtleoelhhndeheaaGreat

/-- the other track of covers: of an earlier round, or a torn one of the next round -/
def Xo (r lv : Int) (z : List Int) : Prop := num (cut z 80 4) < r ∨ (z.take 84 = (coverT (r + 1) lv).take 84 ∧ z ≠ coverT (r + 1) lv)
theorem coverT_tail (r l : Int) : cut (coverT r l) 80 4 = lay4 r := by
  have := cut_mid (a := lay4 r ++ lay2 l ++ List.replicate 74 0) (b := lay4 r) (c := []) (i := 80) (n := 4) (by simp [lay4_length, lay2_length]) (lay4_length r)
  rw [List.append_nil] at this
  unfold coverT
  rw [cut_closed (by simp [lay4_length, lay2_length])]
  exact this
theorem cut_take {z : List Int} {i n m : Nat} (h : i + n ≤ m) : cut (z.take m) i n = cut z i n := by
  unfold cut
  rw [List.drop_take, List.take_take, show min n (m - i) = n by omega]
theorem coverT_nums {r lv : Int} (hr : 0 ≤ r ∧ r < 4294967296) (hl : 0 ≤ lv ∧ lv < 65536) : num (cut (coverT r lv) 0 4) = r ∧ num (cut (coverT r lv) 4 2) = lv ∧ num (cut (coverT r lv) 80 4) = r := by
  rw [coverT_round, coverT_leaves, coverT_tail, num_lay4 hr, num_lay2 hl]
  exact ⟨rfl, rfl, rfl⟩
theorem num_four_bd {z : List Int} (hz : z.length = 96) (hb : IsBytes z) {i : Nat} (hi : i ≤ 92) : 0 ≤ num (cut z i 4) ∧ num (cut z i 4) < 4294967296 := by
  rw [cut4_eq hz i hi, num_four]
  have h0 := zb_bd hb i
  have h1 := zb_bd hb (i + 1)
  have h2 := zb_bd hb (i + 2)
  have h3 := zb_bd hb (i + 3)
  omega

/-- a drum that fell: what an opening reads of it -/
structure Rest (s : DS) (r lv : Int) (P : List (List Ent)) : Prop where
  up : s.Up
  wf : s.Wf
  quiet : s.up = []
  kept : s.kept = s.now
  n : s.n ≤ 4096
  l : 5 ≤ lv ∧ lv + 4 ≤ s.n
  rb : 0 < r ∧ r < 250
  c : s.now (r % 2).toNat = coverT r lv
  o : num (cut (s.now ((r + 1) % 2).toNat) 0 4) < r ∨ Xo r lv (s.now ((r + 1) % 2).toNat)
  lvs : ∃ rest, s.leavesOf lv = postsFrom r 1 P ++ rest ∧ wholeN rest r (1 + P.length) ((s.n : Int) - (2 + lv)) = 0
  st : ∀ k : Nat, k < lv.toNat → Stale (r + 1) (s.now (2 + k))
  p : ∀ e ∈ P, PostOk e ((s.n : Int) - (2 + lv))
def tknP (P : List (List Ent)) : Tkn := P.foldl putL (fun _ => none)
/-- a home track as it will be seen -/
def seen (s : DS) (lv : Int) (P : List (List Ent)) (k : Nat) : List Int := match tknP P k with | some z => z | none => s.now (2 + lv.toNat + k)

theorem Rest.read {s : DS} {r lv : Int} {P : List (List Ent)} (h : Rest s r lv P) : readC s = (r, lv) := by
  have h1 := h.l
  have h2 := h.n
  have h3 := h.rb
  refine readC_of ⟨h3.1, by omega⟩ ⟨h1.1, h1.2, by omega⟩ h.c (fun hc => ?_)
  rcases h.o with ho | ho | ⟨ho, hn⟩
  · exact ho
  · unfold isCover at hc
    rw [Bool.and_eq_true, Bool.and_eq_true, decide_eq_true_eq, decide_eq_true_eq] at hc
    obtain ⟨-, -, hc⟩ := hc
    have hw := h.wf ((r + 1) % 2).toNat (by omega)
    have hb := num_four_bd hw.1 hw.2 (i := 0) (by omega)
    rw [← hc, coverT_tail, num_lay4 hb] at ho
    exact ho
  · exfalso
    unfold isCover at hc
    rw [Bool.and_eq_true, Bool.and_eq_true, decide_eq_true_eq, decide_eq_true_eq] at hc
    obtain ⟨-, -, hc⟩ := hc
    have e1 : cut (s.now ((r + 1) % 2).toNat) 0 4 = cut (coverT (r + 1) lv) 0 4 := by rw [← cut_take (m := 84) (by omega), ho, cut_take (by omega)]
    have e2 : cut (s.now ((r + 1) % 2).toNat) 4 2 = cut (coverT (r + 1) lv) 4 2 := by rw [← cut_take (m := 84) (by omega), ho, cut_take (by omega)]
    obtain ⟨n1, n2, -⟩ := coverT_nums (r := r + 1) (lv := lv) ⟨by omega, by omega⟩ ⟨by omega, by omega⟩
    rw [e1, e2, n1, n2] at hc
    exact hn hc.symm
theorem readL_rest {r H : Int} : ∀ (P : List (List Ent)) (f : Nat) (no : Int) (T : Tkn) (rest : List (List Int)), (∀ e ∈ P, PostOk e H) → wholeN rest r (no + P.length) H = 0 → P.length < f →
    readL r H f (postsFrom r no P ++ rest) no T = P.foldl putL T
  | [], f + 1, no, T, rest, _, hs, _ => by
    show (if wholeN rest r no H = 0 then T else _) = T
    rw [if_pos (by rw [← hs]; congr 1; simp)]
  | e :: P, f + 1, no, T, rest, hP, hs, hf => by
    have he := hP e (List.mem_cons_self ..)
    have hsp : postsFrom r no (e :: P) ++ rest = postL r no e ++ (postsFrom r (no + 1) P ++ rest) := by show (postL r no e ++ _) ++ rest = _; rw [List.append_assoc]
    obtain ⟨h1, h2⟩ := whole_post he r no (postsFrom r (no + 1) P ++ rest)
    have h0 := he.pad.2.1
    rw [hsp]
    show (if wholeN _ r no H = 0 then T else readL r H f ((postL r no e ++ (postsFrom r (no + 1) P ++ rest)).drop (wholeN _ r no H)) (no + 1) (putL T (wholeE _ r no H))) = _
    rw [h1, h2, if_neg (by omega), List.drop_append_of_le_length (by rw [postL_len]; exact Nat.le_refl _), List.drop_eq_nil_of_le (by rw [postL_len]; exact Nat.le_refl _), List.nil_append,
      readL_rest P f (no + 1) (putL T e) rest (fun x hx => hP x (List.mem_cons_of_mem _ hx)) (by rw [← hs]; congr 1; simp; omega) (by simp at hf; omega)]
    rfl
  | _ :: _, 0, _, _, _, _, _, hf => by omega
  | [], 0, _, _, _, _, _, hf => by omega
theorem posts_least {r H : Int} : ∀ (P : List (List Ent)) (no : Int), (∀ e ∈ P, PostOk e H) → P.length ≤ (postsFrom r no P).length
  | [], _, _ => Nat.zero_le _
  | e :: P, no, hP => by
    have h1 := (hP e (List.mem_cons_self ..)).pad.2.1
    have h2 := posts_least P (no + 1) (r := r) (fun x hx => hP x (List.mem_cons_of_mem _ hx))
    show P.length + 1 ≤ (postL r no e ++ postsFrom r (no + 1) P).length
    rw [List.length_append, postL_len]
    omega
theorem Rest.opened {s : DS} {r lv : Int} {P : List (List Ent)} (h : Rest s r lv P) : openedL s = ⟨r, lv, 0, 0, tknP P, false⟩ := by
  have h1 := h.l
  obtain ⟨rest, hr, hs⟩ := h.lvs
  have hlen := leavesOf_len s lv
  rw [hr, List.length_append] at hlen
  have hp := posts_least (r := r) P 1 h.p
  unfold openedL
  rw [h.read]
  show (⟨r, lv, 0, 0, readL r ((s.n : Int) - (2 + lv)) (lv.toNat + 1) (s.leavesOf lv) 1 (fun _ => none), false⟩ : LS) = _
  rw [hr, readL_rest P _ 1 _ rest h.p hs (by omega)]
  rfl
/-- it opens; all home tracks are seen as they were -/
theorem Rest.openL {s : DS} {r lv : Int} {P : List (List Ent)} (h : Rest s r lv P) : ∃ s' L', s.openL = (0, L', s') ∧ Full L' s' [] ∧ L'.round = r + 1 ∧ L'.leaves = lv ∧ L'.used = 0 ∧ L'.last = 0 ∧ s'.n = s.n ∧ s'.kept = s'.now ∧ s'.up = [] ∧ (∀ k, k < L'.H s' → view L' s' k = seen s lv P k) ∧ s'.now (r % 2).toNat = coverT r lv := by
  have h1 := h.l
  have h2 := h.n
  have h3 := h.rb
  have e := h.opened
  have hrd := h.read
  have ok := (opened_ok h.wf (by omega) (by omega) (by rw [hrd]; show r ≠ 0; omega)).1
  rw [e] at ok
  obtain ⟨s', k1, k2⟩ := goHome_up h.up ok
  have hwf := k2.wf ok h.wf
  have hnow := k2.now
  have kn := k2.n
  simp only at k1 hnow
  have hst : ∀ k, k < lv.toNat → s'.now (2 + k) = s.now (2 + k) := fun k hk => by rw [hnow, if_neg (by omega), if_neg (by omega)]
  have hc : s'.now (r % 2).toNat = coverT r lv := by rw [hnow, if_neg (by omega), if_neg (by omega), h.c]
  refine ⟨s', ⟨r + 1, lv, 0, 0, fun _ => none, false⟩, ?_, ⟨⟨k2.up, hwf, ⟨by rw [kn]; omega, by show 0 ≤ r + 1 ∧ r + 1 < _; omega, by rw [kn]; exact h1, by show (0 : Int) ≤ 0 ∧ 0 ≤ lv; omega, by show (0 : Int) ≤ 0 ∧ (0 : Int) < _; omega, (fun x hx => by cases hx), (fun x zs hx => by cases hx)⟩, by show 0 < r + 1 ∧ r + 1 < _; omega, ?_, ?_, ⟨s'.leavesOf lv, rfl, ?_⟩, (fun e he => by cases he), rfl⟩, rfl, rfl, rfl⟩, rfl, rfl, rfl, rfl, kn, k2.kept, k2.none, fun k hk => ?_, hc⟩
  · rw [openL_of h.up.broken (by rw [hrd]; show r ≠ 0; omega), e]
    exact k1
  · show s'.now ((r + 1) % 2).toNat = coverT (r + 1) lv
    rw [hnow, if_pos rfl]
  · show num (cut (s'.now ((r + 1 + 1) % 2).toNat) 0 4) < r + 1
    rw [show ((r + 1 + 1) % 2).toNat = (r % 2).toNat by omega, hc, coverT_round, num_lay4 ⟨by omega, by omega⟩]
    omega
  · intro z hz
    show Stale (r + 1) z
    obtain ⟨k, hk, rfl⟩ := List.mem_map.1 hz
    have hk := List.mem_range.1 hk
    rw [hst k hk]
    exact h.st k hk
  · show s'.now (2 + lv.toNat + k) = _
    unfold LS.H at hk
    simp only at hk
    rw [kn] at hk
    rw [hnow, if_neg (by omega), if_pos ⟨by omega, by omega⟩, show 2 + lv.toNat + k - (2 + lv.toNat) = k by omega]
    rfl

/-- a track behind a fall -/
theorem fall_track {s : DS} (hu : ∀ t y y', (t, y) ∈ s.up → (t, y') ∈ s.up → y = y') (h96 : ∀ q ∈ s.up, q.2.length = 96) (t : Nat) (hk : (s.kept t).length = 96) (keep : List Int) (torn cut : Int) :
    (s.fall keep torn cut).now t = s.kept t ∨ ∃ y, (t, y) ∈ s.up ∧ ((s.fall keep torn cut).now t = y ∨ ∃ c, (s.fall keep torn cut).now t = tornZ c y (s.kept t)) := by
  have key : ∀ k, k ≤ s.up.length → s.fallTo keep torn (cutOf cut) k t = s.kept t ∨ ∃ y, (t, y) ∈ s.up ∧ (s.fallTo keep torn (cutOf cut) k t = y ∨ s.fallTo keep torn (cutOf cut) k t = tornZ (cutOf cut) y (s.kept t)) := by
    intro k
    induction k with
    | zero => intro _; exact .inl rfl
    | succ k ih =>
      intro hk1
      have ih := ih (by omega)
      obtain ⟨⟨t', y'⟩, hy'⟩ : ∃ q, s.up[k]? = some q := ⟨_, List.getElem?_eq_getElem (by omega)⟩
      have hm : (t', y') ∈ s.up := List.mem_of_getElem? hy'
      have e : s.fallTo keep torn (cutOf cut) (k + 1) = fallOne keep torn (cutOf cut) (s.fallTo keep torn (cutOf cut) k) k (t', y') := by show fallOne _ _ _ _ _ (s.up[k]?.getD _) = _; rw [hy']; rfl
      rw [e]
      unfold fallOne
      have l' := h96 _ hm
      by_cases h1 : (k : Int) ∈ keep
      · rw [if_pos h1]
        by_cases ht : t = t'
        · subst ht
          exact .inr ⟨y', hm, .inl (upd_same _ _ _)⟩
        · show upd _ t' y' t = _ ∨ ∃ y, _ ∧ (upd _ t' y' t = _ ∨ upd _ t' y' t = _)
          rw [upd_ne _ _ ht]; exact ih
      · rw [if_neg h1]
        by_cases h2 : (k : Int) = torn
        · rw [if_pos h2]
          by_cases ht : t = t'
          · subst ht
            show upd _ t _ t = _ ∨ ∃ y, _ ∧ (upd _ t _ t = _ ∨ upd _ t _ t = _)
            rw [upd_same]
            refine .inr ⟨y', hm, ?_⟩
            rcases ih with h | ⟨y, hy, h | h⟩
            · right; rw [h]; rfl
            · left
              rw [h, hu t y y' hy hm]
              exact List.take_append_drop _ _
            · right
              rw [h, hu t y y' hy hm]
              unfold tornZ
              show y'.take (cutOf cut) ++ (y'.take (cutOf cut) ++ (s.kept t).drop (cutOf cut)).drop (cutOf cut) = _
              have hc : cutOf cut ≤ 96 := by unfold cutOf; omega
              rw [List.drop_append_of_le_length (by rw [List.length_take]; simp only at l'; omega), List.drop_eq_nil_of_le (by rw [List.length_take]; omega), List.nil_append]
          · show upd _ t' _ t = _ ∨ ∃ y, _ ∧ (upd _ t' _ t = _ ∨ upd _ t' _ t = _)
            rw [upd_ne _ _ ht]; exact ih
        · rw [if_neg h2]; exact ih
  have hn : (s.fall keep torn cut).now t = s.fallTo keep torn (cutOf cut) s.up.length t := rfl
  rw [hn]
  rcases key _ (Nat.le_refl _) with h | ⟨y, h1, h2 | h2⟩
  · exact .inl h
  · exact .inr ⟨y, h1, .inl h2⟩
  · exact .inr ⟨y, h1, .inr ⟨_, h2⟩⟩

/-- leaves afloat: behind the first postings, that are settled, some leaves of the others were laid -/
structure Float (s : DS) (r lv : Int) (P : List (List Ent)) (p0 : Nat) : Prop where
  kw : ∀ k, k < s.n → (s.kept k).length = 96 ∧ IsBytes (s.kept k)
  n : s.n ≤ 4096
  l : 5 ≤ lv ∧ lv + 4 ≤ s.n
  rb : 0 < r ∧ r < 250
  c : s.kept (r % 2).toNat = coverT r lv
  o : num (cut (s.kept ((r + 1) % 2).toNat) 0 4) < r ∨ Xo r lv (s.kept ((r + 1) % 2).toNat)
  p : ∀ e ∈ P, PostOk e ((s.n : Int) - (2 + lv))
  b : ∀ z ∈ postsFrom r 1 P, IsBytes z
  pb : p0 ≤ P.length
  yl : (postsFrom r 1 P).length ≤ lv.toNat
  kl : ∀ j, j < (postsFrom r 1 (P.take p0)).length → (postsFrom r 1 P)[j]? = some (s.kept (2 + j))
  ks : ∀ j, (postsFrom r 1 (P.take p0)).length ≤ j → j < lv.toNat → Stale r (s.kept (2 + j))
  up : ∀ t y, (t, y) ∈ s.up → ∃ j, t = 2 + j ∧ (postsFrom r 1 P)[j]? = some y ∧ (postsFrom r 1 (P.take p0)).length ≤ j

theorem posts_leaf {r H : Int} : ∀ (P : List (List Ent)) (no : Int) (j : Nat) (y : List Int), (∀ e ∈ P, PostOk e H) → (postsFrom r no P)[j]? = some y → ∃ no' b count k, k * 64 + 64 ≤ b.length ∧ y = leafB r no' b count k
  | [], no, j, y, _, h => by simp [postsFrom] at h
  | e :: P, no, j, y, hP, h => by
    have he := (hP e (List.mem_cons_self ..)).pad
    have hl := postL_len r no e
    have hs : postsFrom r no (e :: P) = postL r no e ++ postsFrom r (no + 1) P := rfl
    rw [hs] at h
    by_cases hj : j < postN e
    · rw [List.getElem?_append_left (by omega)] at h
      unfold postL at h
      rw [List.getElem?_map, List.getElem?_range hj] at h
      have h := Option.some.inj h
      exact ⟨no, padE e (postN e), postN e, j, by rw [he.1]; have : (j + 1) * 64 ≤ postN e * 64 := Nat.mul_le_mul_right _ (by omega); omega, h.symm⟩
    · rw [List.getElem?_append_right (by omega)] at h
      exact posts_leaf P (no + 1) _ y (fun x hx => hP x (List.mem_cons_of_mem _ hx)) h
theorem fall_fields (s : DS) (keep : List Int) (torn cut : Int) : (s.fall keep torn cut).n = s.n ∧ (s.fall keep torn cut).up = [] ∧ (s.fall keep torn cut).kept = (s.fall keep torn cut).now := ⟨rfl, rfl, rfl⟩
/-- leaves that fell -/
theorem Float.fall {s : DS} {r lv : Int} {P : List (List Ent)} {p0 : Nat} (h : Float s r lv P p0) (keep : List Int) (torn cut : Int) :
    ∃ p, p0 ≤ p ∧ p ≤ P.length ∧ Rest (s.fall keep torn cut) r lv (P.take p) ∧ ∀ k, 2 + lv.toNat ≤ k → k < s.n → (s.fall keep torn cut).now k = s.kept k := by
  have h1 := h.l
  have h2 := h.n
  have h3 := h.rb
  have hpl : (postsFrom r 1 (P.take p0)).length ≤ (postsFrom r 1 P).length := by
    have := postsFrom_append r 1 (P.take p0) (P.drop p0)
    rw [List.take_append_drop] at this
    rw [this, List.length_append]; omega
  obtain ⟨m0, hm0⟩ : ∃ m0, (postsFrom r 1 (P.take p0)).length = m0 := ⟨_, rfl⟩
  have hst := posts_stale (r := r) ⟨by omega, by omega⟩ P 1 h.p
  have hy : ∀ (j : Nat) y, (postsFrom r 1 P)[j]? = some y → y.length = 96 ∧ IsBytes y ∧ Stale (r + 1) y := fun j y hj => ⟨(hst y (List.mem_of_getElem? hj)).2, h.b y (List.mem_of_getElem? hj), (hst y (List.mem_of_getElem? hj)).1⟩
  have huniq : ∀ t y y', (t, y) ∈ s.up → (t, y') ∈ s.up → y = y' := fun t y y' ha hb => by
    obtain ⟨j, e1, e2, -⟩ := h.up t y ha
    obtain ⟨j', f1, f2, -⟩ := h.up t y' hb
    obtain rfl : j = j' := by omega
    rw [e2] at f2
    exact Option.some.inj f2
  have h96 : ∀ q ∈ s.up, q.2.length = 96 := fun q hq => by
    obtain ⟨j, -, e2, -⟩ := h.up q.1 q.2 hq
    exact (hy j _ e2).1
  have FT := fun t (ht : t < s.n) => fall_track huniq h96 t (h.kw t ht).1 keep torn cut
  have FN : ∀ t, t < s.n → (t < 2 ∨ 2 + (postsFrom r 1 P).length ≤ t) → (s.fall keep torn cut).now t = s.kept t := fun t ht hc => by
    rcases FT t ht with e | ⟨y, hm, -⟩
    · exact e
    · obtain ⟨j, e1, e2, -⟩ := h.up t y hm
      have := (List.getElem?_eq_some_iff.1 e2).1
      omega
  have FW : ∀ t, t < s.n → ((s.fall keep torn cut).now t).length = 96 ∧ IsBytes ((s.fall keep torn cut).now t) := fun t ht => by
    have hk := h.kw t ht
    rcases FT t ht with e | ⟨y, hm, e | ⟨c, e⟩⟩
    · rw [e]; exact hk
    · obtain ⟨j, -, e2, -⟩ := h.up t y hm
      rw [e]; exact ⟨(hy j y e2).1, (hy j y e2).2.1⟩
    · obtain ⟨j, -, e2, -⟩ := h.up t y hm
      rw [e]; exact ⟨tornZ_len (hy j y e2).1 hk.1 c, tornZ_bytes (hy j y e2).2.1 hk.2 c⟩
  -- each leaf: settled, or old, or the new one, or torn
  have FL : ∀ j, j < lv.toNat → Stale (r + 1) ((s.fall keep torn cut).now (2 + j)) ∧ ((postsFrom r 1 P)[j]? = some ((s.fall keep torn cut).now (2 + j)) ∨ (m0 ≤ j ∧ Dead r ((s.fall keep torn cut).now (2 + j)))) := fun j hj => by
    have hk := h.kw (2 + j) (by omega)
    rcases FT (2 + j) (by omega) with e | ⟨y, hm, e⟩
    · rw [e]
      by_cases hjm : j < m0
      · have := h.kl j (by omega)
        exact ⟨(hy j _ this).2.2, .inl this⟩
      · have := h.ks j (by omega) hj
        exact ⟨this.le (by omega), .inr ⟨by omega, this.dead ⟨by omega, by omega⟩⟩⟩
    · obtain ⟨j', e1, e2, e3⟩ := h.up _ y hm
      obtain rfl : j = j' := by omega
      have hyj := hy j y e2
      rcases e with e | ⟨c, e⟩
      · rw [e]; exact ⟨hyj.2.2, .inl e2⟩
      · rw [e]
        have hs := h.ks j (by omega) hj
        refine ⟨stale_torn hyj.1 hk.1 hyj.2.1 hk.2 (by omega) hyj.2.2 (hs.le (by omega)) c, ?_⟩
        obtain ⟨no', b, count, k, hb, rfl⟩ := posts_leaf P 1 j y h.p e2
        rcases torn_leaf hb ⟨by omega, by omega⟩ hk.1 hk.2 hs c with h4 | h4
        · rw [h4]; exact .inl e2
        · exact .inr ⟨by omega, h4⟩
  have hlv : ∀ (j : Nat) z, ((s.fall keep torn cut).leavesOf lv)[j]? = some z → j < lv.toNat ∧ z = (s.fall keep torn cut).now (2 + j) := fun j z hz => by
    have hj : j < lv.toNat := by have := (List.getElem?_eq_some_iff.1 hz).1; rwa [leavesOf_len] at this
    rw [leavesOf_get _ _ _ hj] at hz
    exact ⟨hj, (Option.some.inj hz).symm⟩
  obtain ⟨p, rest, q1, q2, -, q4, q5⟩ := read_mix (r := r) (H := (s.n : Int) - (2 + lv)) ⟨by omega, by omega⟩ (by omega) P (lv.toNat + 1) 1 (fun _ => none) ((s.fall keep torn cut).leavesOf lv) p0 h.p h.pb
    (fun j z hz => by
      obtain ⟨hj, rfl⟩ := hlv j z hz
      rcases (FL j hj).2 with h4 | h4
      · exact .inl h4
      · exact .inr h4.2)
    (fun j hj => by
      have hj2 : j < lv.toNat := by have := h.yl; omega
      rw [leavesOf_get _ _ _ hj2]
      rcases (FL j hj2).2 with h4 | h4
      · exact h4.symm
      · omega)
    (by rw [leavesOf_len]; omega)
  have hH : (((P.take p).length : Nat) : Int) = p := by rw [List.length_take]; omega
  refine ⟨p, q1, q2, ⟨DS.Up.fall _ _ _ _, FW, rfl, rfl, h2, h1, h3, ?_, ?_, ⟨rest, q4, ?_⟩, fun k hk => (FL k hk).1, fun e he => h.p e (List.mem_of_mem_take he)⟩, fun k hk hn => FN k hn (.inr (by have := h.yl; omega))⟩
  · rw [FN _ (by omega) (.inl (by omega))]; exact h.c
  · rw [FN _ (by omega) (.inl (by omega))]; exact h.o
  · rw [hH]; exact q5

end Go.Proofs.YtleoelhhndeheaaGreat

/- package ledger: leaves that are laid lie afloat -/
open Go Go.RowKit
namespace Go.Proofs.YtleoelhhndeheaaGreat

theorem Full.float {L : LS} {s : DS} (f : Full L s []) (hk : s.kept = s.now) (hu : s.up = []) (hr : L.round < 250) : Float s L.round L.leaves [] 0 := by
  have hl := f.g.ok.l
  have h3 := f.g.r
  obtain ⟨rest, h1, h2⟩ := f.g.lv
  refine ⟨by rw [hk]; exact f.g.wf, f.g.ok.n1, hl, ⟨h3.1, hr⟩, by rw [hk]; exact f.g.c, .inl (by rw [hk]; exact f.g.o), (fun e he => by cases he), (fun z hz => by cases hz), Nat.le_refl _, Nat.zero_le _, (fun j hj => by simp [postsFrom] at hj), fun j _ hj => ?_, fun t y hm => by rw [hu] at hm; cases hm⟩
  rw [hk]
  refine h2 _ ?_
  have hm : s.now (2 + j) ∈ s.leavesOf L.leaves := List.mem_map.2 ⟨j, List.mem_range.2 hj, rfl⟩
  rw [h1] at hm
  exact hm
theorem idxLays_get (b : Int) : ∀ (l : List (List Int)) (t : Int) (y : List Int), (t, y) ∈ idxLays b l → ∃ j : Nat, t = b + j ∧ l[j]? = some y
  | [], t, y, h => by cases h
  | z :: r, t, y, h => by
    rcases List.mem_cons.1 h with h | h
    · cases h; exact ⟨0, by simp, rfl⟩
    · obtain ⟨j, h1, h2⟩ := idxLays_get (b + 1) r t y h
      exact ⟨j + 1, by omega, by simpa using h2⟩
theorem idxLays_mem {b : Nat} {ls : List (List Int)} {x : Int × List Int} (hx : x ∈ idxLays (b : Int) ls) : ((b : Int) ≤ x.1 ∧ x.1 < (b : Int) + ls.length) ∧ x.2 ∈ ls := by
  obtain ⟨j, h1, h2⟩ := idxLays_get _ _ x.1 x.2 hx
  have := (List.getElem?_eq_some_iff.1 h2).1
  exact ⟨⟨by omega, by omega⟩, List.mem_of_getElem? h2⟩
/-- a posting's leaves, as they are laid -/
structure Lays (L : LS) (s : DS) (P : List (List Ent)) (el : List Ent) : Prop where
  eq : L.leafLays el = idxLays ((2 + (postsFrom L.round 1 P).length : Nat) : Int) (postL L.round (1 + P.length) el)
  fit : ∀ x ∈ L.leafLays el, (0 ≤ x.1 ∧ x.1 < s.n) ∧ x.2.length = 96
  n : (postN el : Int) = leavesN el.length
  b : ∀ z ∈ postL L.round (1 + P.length) el, IsBytes z
theorem Full.lays {L : LS} {s : DS} {P : List (List Ent)} (f : Full L s P) {el : List Ent} (he : PostOk el (L.H s)) (hb : ∀ x ∈ el, IsBytes x.2) (hle : leavesN el.length ≤ L.leaves - L.used) : Lays L s P el := by
  have hl := f.g.ok.l
  have hn := f.g.ok.n1
  have h3 := f.g.r
  have hu := f.used
  have hla := f.last
  have hpN : (postN el : Int) = leavesN el.length := by unfold postN; rw [postN_eq he.pos]; rfl
  have e : L.leafLays el = idxLays ((2 + (postsFrom L.round 1 P).length : Nat) : Int) (postL L.round (1 + P.length) el) := by
    unfold LS.leafLays
    rw [hu, hla, show (2 : Int) + ((postsFrom L.round 1 P).length : Int) = ((2 + (postsFrom L.round 1 P).length : Nat) : Int) by omega, show ((P.length : Nat) : Int) + 1 = 1 + P.length by omega]
  refine ⟨e, fun x hx => ?_, hpN, fun z hz => ?_⟩
  · rw [e] at hx
    obtain ⟨h4, h5⟩ := idxLays_mem hx
    rw [postL_len] at h4
    exact ⟨⟨by omega, by omega⟩, (post_stale he ⟨by omega, by omega⟩ _ _ h5).2⟩
  · unfold postL at hz
    obtain ⟨k, hk, rfl⟩ := List.mem_map.1 hz
    unfold leafB
    exact closed_bytes (((((((lay4_bytes _).append (lay4_bytes _)).append (lay2_bytes _)).append (lay2_bytes _)).append (cut_bytes (padE_bytes hb _) _ _)).append (lay4_bytes _)).append (lay4_bytes _))
/-- one posting more, of which some leaves were laid -/
theorem Float.more {L : LS} {s s' : DS} {P : List (List Ent)} {p0 : Nat} (h : Float s L.round L.leaves P p0) {el : List Ent} (he : PostOk el (L.H s)) (hle : leavesN el.length ≤ L.leaves - L.used) (hus : L.used = (postsFrom L.round 1 P).length) (k : Lays L s P el)
    (hn : s'.n = s.n) (hk : s'.kept = s.kept) (hu : ∀ x ∈ s'.up, x ∈ s.up ∨ ∃ y ∈ L.leafLays el, x = (y.1.toNat, y.2)) : Float s' L.round L.leaves (P ++ [el]) p0 := by
  have hl := h.l
  have hH : ((L.H s : Nat) : Int) = (s.n : Int) - (2 + L.leaves) := by unfold LS.H; omega
  have e1 : postsFrom L.round 1 (P ++ [el]) = postsFrom L.round 1 P ++ postL L.round (1 + P.length) el := by
    rw [postsFrom_append]
    show _ ++ (postL L.round (1 + (P.length : Int)) el ++ []) = _
    rw [List.append_nil]
  have e2 : (P ++ [el]).take p0 = P.take p0 := List.take_append_of_le_length h.pb
  have hpl : (postsFrom L.round 1 (P.take p0)).length ≤ (postsFrom L.round 1 P).length := by
    have := postsFrom_append L.round 1 (P.take p0) (P.drop p0)
    rw [List.take_append_drop] at this
    rw [this, List.length_append]; omega
  refine ⟨by rw [hn, hk]; exact h.kw, by rw [hn]; exact h.n, by rw [hn]; exact hl, h.rb, by rw [hk]; exact h.c, by rw [hk]; exact h.o, ?_, ?_, by rw [List.length_append]; have := h.pb; omega, ?_, ?_, ?_, ?_⟩
  · intro e hm
    rw [hn]
    rcases List.mem_append.1 hm with hm | hm
    · exact h.p e hm
    · rw [List.mem_singleton.1 hm, ← hH]; exact he
  · intro z hz
    rw [e1] at hz
    rcases List.mem_append.1 hz with hz | hz
    · exact h.b z hz
    · exact k.b z hz
  · rw [e1, List.length_append, postL_len]
    have := k.n
    omega
  · intro j hj
    rw [e2] at hj
    rw [e1, hk, List.getElem?_append_left (by omega)]
    exact h.kl j hj
  · rw [e2, hk]; exact h.ks
  · intro t y hm
    rw [e2, e1]
    rcases hu _ hm with hm | ⟨⟨t', y'⟩, hm2, hx⟩
    · obtain ⟨j, j1, j2, j3⟩ := h.up t y hm
      exact ⟨j, j1, by rw [List.getElem?_append_left (List.getElem?_eq_some_iff.1 j2).1]; exact j2, j3⟩
    · cases hx
      rw [k.eq] at hm2
      obtain ⟨j, j1, j2⟩ := idxLays_get _ _ t' y' hm2
      refine ⟨(postsFrom L.round 1 P).length + j, by show t'.toNat = _; omega, ?_, by omega⟩
      rw [List.getElem?_append_right (by omega), show (postsFrom L.round 1 P).length + j - (postsFrom L.round 1 P).length = j by omega]
      exact j2
/-- a write that goes in, on a drum that goes -/
theorem Full.writeFloat {L : LS} {s : DS} {P : List (List Ent)} {p0 : Nat} (f : Full L s P) (h : Float s L.round L.leaves P p0) {el : List Ent} (he : PostOk el (L.H s)) (hb : ∀ x ∈ el, IsBytes x.2) (hle : leavesN el.length ≤ L.leaves - L.used) (hla : L.last < 999999000) :
    ∃ L' s', L.write s el = (0, L', s') ∧ Full L' s' (P ++ [el]) ∧ Float s' L'.round L'.leaves (P ++ [el]) p0 ∧ L'.round = L.round ∧ L'.leaves = L.leaves ∧ L'.last = L.last + 1 ∧ L'.used = L.used + leavesN el.length ∧ s'.n = s.n ∧ s'.kept = s.kept ∧ s'.up.length = s.up.length + postN el ∧ ∀ k, view L' s' k = over el k (view L s k) := by
  obtain ⟨L', s', h1, h2, h3, h4, h5, h6, h7, h8⟩ := f.lay he hb hle hla
  have ly := f.lays he hb hle
  obtain ⟨l1, l2, l3, l4, l5, l6⟩ := f.g.up.lays ly.fit
  have hs : s' = (s.lays (L.leafLays el)).2 := by
    unfold LS.lay at h1
    rw [if_pos l1] at h1
    exact ((Prod.mk.inj (Prod.mk.inj h1).2).2).symm
  have hu2 := f.g.ok.u
  have hw : L.write s el = (0, L', s') := by
    unfold LS.write
    rw [if_pos he.may, f.lost, if_neg (by simp), if_neg (by omega), if_neg (by omega)]
    unfold LS.layEnds
    rw [h1, ends_zero]
  have hup : s'.up = s.up ++ (L.leafLays el).map fun x => (x.1.toNat, x.2) := by rw [hs]; exact l6
  refine ⟨L', s', hw, h2, ?_, h3, h4, h5, ?_, h6, h7, ?_, h8⟩
  · rw [h3, h4]
    refine h.more he hle f.used ly h6 h7 (fun x hx => ?_)
    rw [hup] at hx
    rcases List.mem_append.1 hx with hx | hx
    · exact .inl hx
    · obtain ⟨y, hy, rfl⟩ := List.mem_map.1 hx
      exact .inr ⟨y, hy, rfl⟩
  · rw [h2.used, h3, postsFrom_append, List.length_append, f.used]
    show (((postsFrom L.round 1 P).length + (postL L.round _ el ++ []).length : Nat) : Int) = _
    rw [List.append_nil, postL_len]
    have := ly.n
    omega
  · rw [hup, List.length_append, List.length_map, ly.eq, idxLays_length, postL_len]

end Go.Proofs.YtleoelhhndeheaaGreat
