import Derived.Test.YtleoelhhndeheaaGreatLedS
/- package ledger: numbers and leaves there and back -/
open Go Go.RowKit
namespace Go.Proofs.YtleoelhhndeheaaGreat

theorem cut_append_left {a b : List Int} {i n : Nat} (h : i + n ≤ a.length) : cut (a ++ b) i n = cut a i n := by
  unfold cut
  rw [List.drop_append_of_le_length (by omega), List.take_append_of_le_length (by rw [List.length_drop]; omega)]
theorem cut_append_right {a b : List Int} {i n : Nat} (h : a.length ≤ i) : cut (a ++ b) i n = cut b (i - a.length) n := by
  unfold cut
  rw [List.drop_append, List.drop_eq_nil_of_le h, List.nil_append]
theorem cut_all {a : List Int} {n : Nat} (h : a.length = n) : cut a 0 n = a := by
  unfold cut
  rw [List.drop_zero, List.take_of_length_le (by omega)]
theorem cut_mid {a b c : List Int} {i n : Nat} (ha : a.length = i) (hb : b.length = n) : cut (a ++ b ++ c) i n = b := by
  rw [List.append_assoc, cut_append_right (by omega), ha, Nat.sub_self, cut_append_left (by omega), cut_all hb]
theorem cut_closed {zs : List Int} {i n : Nat} (h : i + n ≤ zs.length) : cut (closed zs) i n = cut zs i n := by
  unfold closed padded
  rw [List.append_assoc, List.append_assoc, cut_append_left h]
theorem num_lay4 {r : Int} (h : 0 ≤ r ∧ r < 4294967296) : num (lay4 r) = r := by
  show pw (lay4 r) 0 4 = r
  simp [pw, zb, lay4]
  omega
theorem num_lay2 {r : Int} (h : 0 ≤ r ∧ r < 65536) : num (lay2 r) = r := by
  show pw (lay2 r) 0 2 = r
  simp [pw, zb, lay2]
  omega

theorem coverT_round (r l : Int) : cut (coverT r l) 0 4 = lay4 r := by
  unfold coverT
  rw [cut_closed (by rw [coverB_length]; decide), List.append_assoc, List.append_assoc, cut_append_left (by rw [lay4_length]; decide), cut_all (lay4_length r)]
theorem coverT_leaves (r l : Int) : cut (coverT r l) 4 2 = lay2 l := by
  unfold coverT
  rw [cut_closed (by rw [coverB_length]; decide), show lay4 r ++ lay2 l ++ List.replicate 74 0 ++ lay4 r = lay4 r ++ lay2 l ++ (List.replicate 74 0 ++ lay4 r) by rw [List.append_assoc], cut_mid (lay4_length r) (lay2_length l)]
/-- a cover that stands where it belongs -/
theorem isCover_coverT {s : DS} {r l : Int} {k : Nat} (hr : 0 < r ∧ r < 4294967296) (hl : 5 ≤ l ∧ l + 4 ≤ s.n ∧ l < 65536) (hk : r % 2 = k) (h : s.now k = coverT r l) :
    isCover s k = true ∧ num (cut (s.now k) 0 4) = r ∧ num (cut (s.now k) 4 2) = l := by
  have e1 : num (cut (s.now k) 0 4) = r := by rw [h, coverT_round, num_lay4 ⟨by omega, hr.2⟩]
  have e2 : num (cut (s.now k) 4 2) = l := by rw [h, coverT_leaves, num_lay2 ⟨by omega, hl.2.2⟩]
  refine ⟨?_, e1, e2⟩
  unfold isCover mayC
  rw [e1, e2, h]
  simp only [Bool.and_eq_true, decide_eq_true_eq]
  exact ⟨⟨hr.1, hl.1, by omega⟩, hk, trivial⟩
/-- the cover of a round is what is read, if none of a later one stands beside it -/
theorem readC_of {s : DS} {r l : Int} (hr : 0 < r ∧ r < 4294967296) (hl : 5 ≤ l ∧ l + 4 ≤ s.n ∧ l < 65536) (h : s.now (r % 2).toNat = coverT r l) (ho : isCover s ((r + 1) % 2).toNat = true → num (cut (s.now ((r + 1) % 2).toNat) 0 4) < r) : readC s = (r, l) := by
  have hb : ∀ k b, better s k b = if isCover s k = true ∧ b.1 < num (cut (s.now k) 0 4) then (num (cut (s.now k) 0 4), num (cut (s.now k) 4 2)) else b := fun _ _ => rfl
  have hc : readC s = better s 1 (better s 0 (0, 0)) := rfl
  rcases (by omega : r % 2 = 0 ∨ r % 2 = 1) with e | e
  · have e1 : (r + 1) % 2 = 1 := by omega
    rw [e] at h
    rw [e1] at ho
    obtain ⟨c1, c2, c3⟩ := isCover_coverT hr hl (k := 0) e h
    have hq : better s 0 (0, 0) = (r, l) := by rw [hb, if_pos ⟨c1, by rw [c2]; exact hr.1⟩, c2, c3]
    rw [hc, hq, hb, if_neg]
    rintro ⟨h1, h2⟩
    have := ho h1
    have h2 : r < num (cut (s.now 1) 0 4) := h2
    have h3 : num (cut (s.now 1) 0 4) < r := this
    omega
  · have e1 : (r + 1) % 2 = 0 := by omega
    rw [e] at h
    rw [e1] at ho
    obtain ⟨c1, c2, c3⟩ := isCover_coverT hr hl (k := 1) e h
    have hq : (better s 0 (0, 0)).1 < r := by
      rw [hb]
      split
      · rename_i h1
        exact ho h1.1
      · exact hr.1
    rw [hc, hb, if_pos ⟨c1, by rw [c2]; exact hq⟩, c2, c3]

theorem leafB_head {r no : Int} {b : List Int} {count k : Nat} (hb : k * 64 + 64 ≤ b.length) : cut (leafB r no b count k) 0 4 = lay4 r ∧ cut (leafB r no b count k) 10 2 = lay2 count ∧ cut (leafB r no b count k) 12 64 = cut b (k * 64) 64 := by
  have hc := cut_length (b := b) (i := k * 64) (n := 64) hb
  have hl := leafB_length' b r no count k hc
  unfold leafB
  refine ⟨?_, ?_, ?_⟩
  · rw [cut_closed (by rw [hl]; decide)]
    simp only [List.append_assoc]
    rw [cut_append_left (by rw [lay4_length]; decide), cut_all (lay4_length r)]
  · rw [cut_closed (by rw [hl]; decide)]
    rw [show lay4 r ++ lay4 no ++ lay2 (k : Int) ++ lay2 (count : Int) ++ cut b (k * 64) 64 ++ lay4 no ++ lay4 r = (lay4 r ++ lay4 no ++ lay2 (k : Int)) ++ lay2 (count : Int) ++ (cut b (k * 64) 64 ++ lay4 no ++ lay4 r) by simp [List.append_assoc]]
    exact cut_mid (by simp [lay4_length, lay2_length]) (lay2_length _)
  · rw [cut_closed (by rw [hl]; decide)]
    rw [show lay4 r ++ lay4 no ++ lay2 (k : Int) ++ lay2 (count : Int) ++ cut b (k * 64) 64 ++ lay4 no ++ lay4 r = (lay4 r ++ lay4 no ++ lay2 (k : Int) ++ lay2 (count : Int)) ++ cut b (k * 64) 64 ++ (lay4 no ++ lay4 r) by simp [List.append_assoc]]
    exact cut_mid (by simp [lay4_length, lay2_length]) hc
theorem join_cuts {b : List Int} : ∀ {n : Nat}, b.length = n * 64 → (List.range n).flatMap (fun k => cut b (k * 64) 64) = b := by
  have key : ∀ m : Nat, m * 64 ≤ b.length → (List.range m).flatMap (fun k => cut b (k * 64) 64) = b.take (m * 64) := by
    intro m
    induction m with
    | zero => intro _; simp
    | succ m ih =>
      intro h
      rw [List.range_succ, List.flatMap_append, ih (by omega)]
      simp only [List.flatMap_cons, List.flatMap_nil, List.append_nil]
      unfold cut
      rw [show (m + 1) * 64 = m * 64 + 64 by omega, List.take_add]
  intro n h
  rw [key n (by omega), List.take_of_length_le (by omega)]
/-- entries that may stand in a posting -/
structure PostOk (l : List Ent) (H : Int) : Prop where
  may : mayE l H = true
  small : H ≤ 65536
  n : l.length ≤ 600
theorem PostOk.pos {l : List Ent} {H : Int} (h : PostOk l H) : 0 < l.length := by
  have := h.may
  unfold mayE at this
  rw [Bool.and_eq_true, decide_eq_true_eq] at this
  exact this.2
theorem PostOk.ents {l : List Ent} {H : Int} (h : PostOk l H) : ∀ x ∈ l, (0 ≤ x.1 ∧ x.1 < 65536) ∧ x.2.length = 96 := fun x hx => by
  have := mayE_mem h.may x hx
  have := h.small
  exact ⟨⟨by omega, by omega⟩, by omega⟩
theorem PostOk.ok {l : List Ent} {H : Int} (h : PostOk l H) : EntsOk l := fun x hx => ⟨⟨(h.ents x hx).1.1, by have := (h.ents x hx).1.2; omega⟩, (h.ents x hx).2⟩
theorem parse_body : ∀ (l : List Ent) (r : List Int), (∀ x ∈ l, (0 ≤ x.1 ∧ x.1 < 65536) ∧ x.2.length = 96) → parseE l.length ((l.flatMap fun x => lay2 x.1 ++ x.2) ++ r) = l
  | [], _, _ => rfl
  | x :: l, r, h => by
    obtain ⟨h1, h2⟩ := h x (List.mem_cons_self ..)
    have hb : (x :: l).flatMap (fun x => lay2 x.1 ++ x.2) ++ r = lay2 x.1 ++ x.2 ++ (l.flatMap (fun x => lay2 x.1 ++ x.2) ++ r) := by simp [List.append_assoc]
    rw [hb]
    show (if 98 ≤ _ then _ else _) = _
    rw [if_pos (by simp [lay2_length, h2]; omega), cut_append_left (by simp [lay2_length]), cut_append_left (by simp [lay2_length]), cut_all (lay2_length x.1), num_lay2 h1]
    have e2 : cut (lay2 x.1 ++ x.2 ++ (l.flatMap (fun x => lay2 x.1 ++ x.2) ++ r)) 2 96 = x.2 := cut_mid (lay2_length x.1) h2
    have e3 : (lay2 x.1 ++ x.2 ++ (l.flatMap (fun x => lay2 x.1 ++ x.2) ++ r)).drop 98 = l.flatMap (fun x => lay2 x.1 ++ x.2) ++ r := by
      rw [List.drop_append_of_le_length (by simp [lay2_length, h2]), List.drop_eq_nil_of_le (by simp [lay2_length, h2]), List.nil_append]
    rw [e2, e3, parse_body l r (fun y hy => h y (List.mem_cons_of_mem _ hy))]
theorem postL_join {l : List Ent} {H : Int} (h : PostOk l H) (r no : Int) : joinB (postL r no l) = padE l (postN l) := by
  have hp : (padE l (postN l)).length = postN l * 64 := by
    refine padE_length h.ok ?_
    unfold postN
    rw [postN_eq h.pos]
    show _ ≤ (2 + l.length * 98 + 63) / 64 * 64
    omega
  unfold joinB postL
  rw [List.flatMap_map]
  have e : ∀ k ∈ List.range (postN l), cut (leafB r no (padE l (postN l)) (postN l) k) 12 64 = cut (padE l (postN l)) (k * 64) 64 := fun k hk => (leafB_head (by have := List.mem_range.1 hk; rw [hp]; omega)).2.2
  have : (List.range (postN l)).flatMap (fun k => cut (leafB r no (padE l (postN l)) (postN l) k) 12 64) = (List.range (postN l)).flatMap (fun k => cut (padE l (postN l)) (k * 64) 64) := by
    unfold List.flatMap
    rw [List.map_congr_left e]
  rw [this]
  exact join_cuts hp
theorem postL_entries {l : List Ent} {H : Int} (h : PostOk l H) (r no : Int) : entriesL (postL r no l) = l := by
  unfold entriesL
  rw [postL_join h]
  have hn := h.n
  have e1 : num (cut (padE l (postN l)) 0 2) = l.length := by
    unfold padE bodyE
    rw [List.append_assoc, cut_append_left (by rw [lay2_length]; decide), cut_all (lay2_length _), num_lay2 (by omega)]
  have e2 : (padE l (postN l)).drop 2 = (l.flatMap fun x => lay2 x.1 ++ x.2) ++ List.replicate (postN l * 64 - (bodyE l).length) 0 := by
    unfold padE
    rw [show bodyE l = lay2 l.length ++ l.flatMap fun x => lay2 x.1 ++ x.2 from rfl, List.append_assoc, List.drop_append_of_le_length (by rw [lay2_length]; decide), List.drop_eq_nil_of_le (by rw [lay2_length]; decide), List.nil_append]
  rw [e1, e2]
  exact parse_body l _ h.ents

end Go.Proofs.YtleoelhhndeheaaGreat

/- package ledger: postings that are whole are read; a drum that goes -/
open Go Go.RowKit
namespace Go.Proofs.YtleoelhhndeheaaGreat

theorem PostOk.pad {l : List Ent} {H : Int} (h : PostOk l H) : (padE l (postN l)).length = postN l * 64 ∧ 0 < postN l ∧ postN l < 65536 := by
  have hn := h.n
  have hp : postN l = (2 + l.length * 98 + 63) / 64 := by unfold postN; rw [postN_eq h.pos]; rfl
  have h0 := h.pos
  exact ⟨padE_length h.ok (by rw [hp]; omega), by rw [hp]; omega, by rw [hp]; omega⟩
theorem postL_len (r no : Int) (l : List Ent) : (postL r no l).length = postN l := by unfold postL; simp
theorem postL_head {l : List Ent} (h0 : 0 < postN l) (r no : Int) (rest : List (List Int)) : (postL r no l ++ rest).headD [] = leafB r no (padE l (postN l)) (postN l) 0 := by
  unfold postL
  obtain ⟨m, hm⟩ : ∃ m, postN l = m + 1 := ⟨postN l - 1, by omega⟩
  rw [hm, List.range_succ_eq_map]
  rfl
theorem tells_post {l : List Ent} {H : Int} (h : PostOk l H) (r no : Int) (rest : List (List Int)) : tells (postL r no l ++ rest) = postN l := by
  obtain ⟨h1, h2, h3⟩ := h.pad
  unfold tells
  rw [postL_head h2, (leafB_head (by rw [h1]; omega)).2.1, num_lay2 (by omega)]
  rfl
theorem isWhole_post {l : List Ent} {H : Int} (h : PostOk l H) (r no : Int) (rest : List (List Int)) : isWhole (postL r no l ++ rest) r no H = true := by
  obtain ⟨h1, h2, h3⟩ := h.pad
  unfold isWhole
  rw [tells_post h, List.take_append_of_le_length (by rw [postL_len]; exact Nat.le_refl _), List.take_of_length_le (by rw [postL_len]; exact Nat.le_refl _), postL_entries h, h.may, decide_eq_true (by rw [List.length_append, postL_len]; omega), decide_eq_true rfl]
  rfl
theorem whole_post {l : List Ent} {H : Int} (h : PostOk l H) (r no : Int) (rest : List (List Int)) : wholeN (postL r no l ++ rest) r no H = postN l ∧ wholeE (postL r no l ++ rest) r no H = l := by
  have hw := isWhole_post h r no rest
  unfold wholeN wholeE
  rw [if_pos hw, if_pos hw, tells_post h, List.take_append_of_le_length (by rw [postL_len]; exact Nat.le_refl _), List.take_of_length_le (by rw [postL_len]; exact Nat.le_refl _), postL_entries h]
  exact ⟨rfl, rfl⟩

/-- of an earlier round -/
def Stale (r : Int) (z : List Int) : Prop := num (cut z 0 4) < r ∧ num (cut z 80 4) < r
theorem parseE_small : ∀ (n : Nat) (b : List Int), (parseE n b).length * 98 ≤ b.length
  | 0, _ => Nat.zero_le _
  | n + 1, b => by
    unfold parseE
    split
    · rename_i h
      have := parseE_small n (b.drop 98)
      rw [List.length_drop] at this
      rw [List.length_cons]
      omega
    · exact Nat.zero_le _
/-- nothing of this round stands there -/
theorem whole_stale {ls : List (List Int)} {r : Int} (hr : 0 ≤ r ∧ r < 4294967296) (h : ∀ z ∈ ls, Stale r z) (h96 : ∀ z ∈ ls, z.length = 96) (no H : Int) (hH : H ≤ 65536) : wholeN ls r no H = 0 := by
  unfold wholeN
  split
  · rename_i hw
    exfalso
    unfold isWhole at hw
    rw [Bool.and_eq_true, Bool.and_eq_true, decide_eq_true_eq, decide_eq_true_eq] at hw
    obtain ⟨⟨h1, h2, h3⟩, hm, he⟩ := hw
    have hpos : 0 < (entriesL (ls.take (tells ls))).length := by
      unfold mayE at hm
      rw [Bool.and_eq_true, decide_eq_true_eq] at hm
      exact hm.2
    have hmem := mayE_mem hm
    generalize hE : entriesL (ls.take (tells ls)) = E at *
    have hok : EntsOk E := fun x hx => ⟨⟨(hmem x hx).1, by have := (hmem x hx).2.1; omega⟩, (hmem x hx).2.2⟩
    have hn0 : 0 < postN E := by unfold postN; rw [postN_eq hpos]; show 0 < (2 + E.length * 98 + 63) / 64; omega
    have hp : (padE E (postN E)).length = postN E * 64 := by
      refine padE_length hok ?_
      unfold postN
      rw [postN_eq hpos]
      show _ ≤ (2 + E.length * 98 + 63) / 64 * 64
      omega
    have hh := postL_head hn0 r no []
    rw [List.append_nil, he] at hh
    cases ls with
    | nil => simp at h1
    | cons z zs =>
      obtain ⟨t, ht⟩ : ∃ t, tells (z :: zs) = t + 1 := ⟨tells (z :: zs) - 1, by omega⟩
      rw [ht, List.take_succ_cons] at hh
      have hz : z = leafB r no (padE E (postN E)) (postN E) 0 := hh
      have := (h z (List.mem_cons_self ..)).1
      rw [hz, (leafB_head (by rw [hp]; omega)).1, num_lay4 hr] at this
      omega
  · rfl

/-- postings, one behind the other -/
def postsFrom (r : Int) : Int → List (List Ent) → List (List Int)
  | _, [] => []
  | no, e :: P => postL r no e ++ postsFrom r (no + 1) P
theorem postsFrom_append (r : Int) : ∀ (no : Int) (P Q : List (List Ent)), postsFrom r no (P ++ Q) = postsFrom r no P ++ postsFrom r (no + P.length) Q
  | no, [], Q => by simp [postsFrom]
  | no, e :: P, Q => by
    show postL r no e ++ postsFrom r (no + 1) (P ++ Q) = (postL r no e ++ postsFrom r (no + 1) P) ++ _
    rw [postsFrom_append, List.append_assoc, List.length_cons, show no + 1 + (P.length : Int) = no + ((P.length + 1 : Nat) : Int) by omega]
theorem readL_posts {r H : Int} (hr : 0 ≤ r ∧ r < 4294967296) (hH : H ≤ 65536) : ∀ (P : List (List Ent)) (f : Nat) (no : Int) (T : Tkn) (rest : List (List Int)), (∀ e ∈ P, PostOk e H) → (∀ z ∈ rest, Stale r z) → (∀ z ∈ rest, z.length = 96) → P.length < f →
    readL r H f (postsFrom r no P ++ rest) no T = P.foldl putL T
  | [], f + 1, no, T, rest, _, hs, h96, _ => by
    show (if wholeN rest r no H = 0 then T else _) = T
    rw [if_pos (whole_stale hr hs h96 no H hH)]
  | e :: P, f + 1, no, T, rest, hP, hs, h96, hf => by
    have he := hP e (List.mem_cons_self ..)
    have hsp : postsFrom r no (e :: P) ++ rest = postL r no e ++ (postsFrom r (no + 1) P ++ rest) := by show (postL r no e ++ _) ++ rest = _; rw [List.append_assoc]
    obtain ⟨h1, h2⟩ := whole_post he r no (postsFrom r (no + 1) P ++ rest)
    have h0 := he.pad.2.1
    rw [hsp]
    show (if wholeN _ r no H = 0 then T else readL r H f ((postL r no e ++ (postsFrom r (no + 1) P ++ rest)).drop (wholeN _ r no H)) (no + 1) (putL T (wholeE _ r no H))) = _
    rw [h1, h2, if_neg (by omega), List.drop_append_of_le_length (by rw [postL_len]; exact Nat.le_refl _), List.drop_eq_nil_of_le (by rw [postL_len]; exact Nat.le_refl _), List.nil_append,
      readL_posts hr hH P f (no + 1) (putL T e) rest (fun x hx => hP x (List.mem_cons_of_mem _ hx)) hs h96 (by simp at hf; omega)]
    rfl
  | _ :: _, 0, _, _, _, _, _, _, hf => by omega
  | [], 0, _, _, _, _, _, _, hf => by omega

/-- the tracks behind some lays -/
def nowAfter (t : Nat → List Int) (l : List (Int × List Int)) : Nat → List Int := l.foldl (fun t x => upd t x.1.toNat x.2) t
theorem DS.Up.layC {s : DS} (h : s.Up) {k : Int} (hk : 0 ≤ k ∧ k < s.n) {zs : List Int} (hz : zs.length = 96) : s.lay k zs = s.lay1 k.toNat zs ∧ s.layCode k zs = 0 := by
  have := h.lay (k := k.toNat) (by omega) hz
  rw [show ((k.toNat : Nat) : Int) = k by omega] at this
  exact this
theorem DS.Up.lays {s : DS} (h : s.Up) : ∀ {l : List (Int × List Int)}, (∀ x ∈ l, (0 ≤ x.1 ∧ x.1 < s.n) ∧ x.2.length = 96) → (s.lays l).1 = 0 ∧ (s.lays l).2.Up ∧ (s.lays l).2.n = s.n ∧ (s.lays l).2.now = nowAfter s.now l ∧ (s.lays l).2.kept = s.kept ∧ (s.lays l).2.up = s.up ++ l.map fun x => (x.1.toNat, x.2) := by
  intro l
  induction l generalizing s with
  | nil => intro _; exact ⟨rfl, h, rfl, rfl, rfl, (List.append_nil _).symm⟩
  | cons y l ih =>
    intro hl
    obtain ⟨h1, h2⟩ := hl y (List.mem_cons_self ..)
    obtain ⟨e1, e2⟩ := h.layC h1 h2
    have hs : s.lays (y :: l) = (s.lay1 y.1.toNat y.2).lays l := by
      show (if s.layCode y.1 y.2 = 0 then (s.lay y.1 y.2).lays l else _) = _
      rw [if_pos e2, e1]
    have := ih (h.lay1 y.1.toNat y.2) (fun x hx => hl x (List.mem_cons_of_mem _ hx))
    rw [hs]
    refine ⟨this.1, this.2.1, this.2.2.1, this.2.2.2.1, this.2.2.2.2.1, ?_⟩
    rw [this.2.2.2.2.2]
    show (s.up ++ [(y.1.toNat, y.2)]) ++ _ = _
    rw [List.append_assoc]
    rfl
theorem DS.Up.turned {s : DS} (h : s.Up) {r l : Int} (hn : 2 ≤ s.n) (hr : 0 ≤ r) : s.turned r l = (0, (s.lay1 (r % 2).toNat (coverT r l)).settle1) := by
  obtain ⟨e1, e2⟩ := h.layC (k := r % 2) ⟨by omega, by omega⟩ (coverT_length r l)
  unfold DS.turned
  rw [if_pos e2, e1, (h.lay1 _ _).code, (h.lay1 _ _).settle]
theorem nowAfter_snoc (t : Nat → List Int) (l : List (Int × List Int)) (x : Int × List Int) : nowAfter t (l ++ [x]) = upd (nowAfter t l) x.1.toNat x.2 := by
  unfold nowAfter; rw [List.foldl_append]; rfl
theorem nowAfter_not {t : Nat → List Int} : ∀ {l : List (Int × List Int)} {k : Nat}, (∀ x ∈ l, x.1.toNat ≠ k) → nowAfter t l k = t k := by
  intro l
  induction l generalizing t with
  | nil => intro k _; rfl
  | cons y l ih =>
    intro k h
    show nowAfter (upd t y.1.toNat y.2) l k = t k
    rw [ih (fun x hx => h x (List.mem_cons_of_mem _ hx)), upd_ne _ _ (fun e => h y (List.mem_cons_self ..) e.symm)]
theorem nowAfter_idx {t : Nat → List Int} : ∀ {ls : List (List Int)} {b : Nat} {k : Nat}, nowAfter t (idxLays (b : Int) ls) k = if b ≤ k ∧ k < b + ls.length then (ls[k - b]?.getD []) else t k
  | [], b, k => by
    show t k = _
    rw [if_neg (by rintro ⟨h1, h2⟩; simp at h2; omega)]
  | z :: r, b, k => by
    show nowAfter (upd t ((b : Int).toNat) z) (idxLays ((b : Int) + 1) r) k = _
    rw [show ((b : Int) + 1) = ((b + 1 : Nat) : Int) by omega, nowAfter_idx, show (b : Int).toNat = b by omega]
    by_cases h1 : b + 1 ≤ k ∧ k < b + 1 + r.length
    · rw [if_pos h1, if_pos (by simp; omega), show k - b = (k - (b + 1)) + 1 by omega, List.getElem?_cons_succ]
    · rw [if_neg h1]
      by_cases h2 : k = b
      · subst h2
        rw [upd_same, if_pos (by simp), Nat.sub_self]
        rfl
      · rw [upd_ne _ _ h2, if_neg (by simp; omega)]

end Go.Proofs.YtleoelhhndeheaaGreat

/- package ledger: a ledger on a drum that goes -/
open Go Go.RowKit
namespace Go.Proofs.YtleoelhhndeheaaGreat

theorem leafB_tail {r no : Int} {b : List Int} {count k : Nat} (hb : k * 64 + 64 ≤ b.length) : cut (leafB r no b count k) 80 4 = lay4 r := by
  have hc := cut_length (b := b) (i := k * 64) (n := 64) hb
  have hl := leafB_length' b r no count k hc
  unfold leafB
  rw [cut_closed (by rw [hl]; decide)]
  have := cut_mid (a := lay4 r ++ lay4 no ++ lay2 (k : Int) ++ lay2 (count : Int) ++ cut b (k * 64) 64 ++ lay4 no) (b := lay4 r) (c := []) (i := 80) (n := 4) (by simp [lay4_length, lay2_length, hc]) (lay4_length r)
  rw [List.append_nil] at this
  exact this
theorem post_stale {l : List Ent} {H : Int} (h : PostOk l H) {r : Int} (hr : 0 ≤ r ∧ r < 4294967296) (no : Int) : ∀ z ∈ postL r no l, Stale (r + 1) z ∧ z.length = 96 := by
  intro z hz
  unfold postL at hz
  obtain ⟨k, hk, rfl⟩ := List.mem_map.1 hz
  have hk := List.mem_range.1 hk
  have hb : k * 64 + 64 ≤ (padE l (postN l)).length := by rw [h.pad.1]; omega
  refine ⟨⟨?_, ?_⟩, ?_⟩
  · rw [(leafB_head hb).1, num_lay4 hr]; omega
  · rw [leafB_tail hb, num_lay4 hr]; omega
  · unfold leafB
    exact closed_length (by rw [leafB_length' _ _ _ _ _ (cut_length hb)]; decide)
theorem posts_stale {r : Int} (hr : 0 ≤ r ∧ r < 4294967296) {H : Int} : ∀ (P : List (List Ent)) (no : Int), (∀ e ∈ P, PostOk e H) → ∀ z ∈ postsFrom r no P, Stale (r + 1) z ∧ z.length = 96
  | [], _, _, z, hz => by cases hz
  | e :: P, no, hP, z, hz => by
    rcases List.mem_append.1 hz with hz | hz
    · exact post_stale (hP e (List.mem_cons_self ..)) hr no z hz
    · exact posts_stale hr P (no + 1) (fun x hx => hP x (List.mem_cons_of_mem _ hx)) z hz

/-- a ledger on a drum that goes: what stands on the drum is what it says -/
structure Good (L : LS) (s : DS) (P : List (List Ent)) : Prop where
  up : s.Up
  wf : s.Wf
  ok : L.Ok s
  r : 0 < L.round ∧ L.round < 4294960000
  c : s.now (L.round % 2).toNat = coverT L.round L.leaves
  o : num (cut (s.now ((L.round + 1) % 2).toNat) 0 4) < L.round
  lv : ∃ rest, s.leavesOf L.leaves = postsFrom L.round 1 P ++ rest ∧ ∀ z ∈ rest, Stale L.round z
  p : ∀ e ∈ P, PostOk e (L.H s)
  tk : L.taken = P.foldl putL (fun _ => none)
/-- a home track as it is seen -/
def view (L : LS) (s : DS) (k : Nat) : List Int := match L.taken k with | some z => z | none => s.now (2 + L.leaves.toNat + k)
theorem Good.read {L : LS} {s : DS} {P : List (List Ent)} (g : Good L s P) : readC s = (L.round, L.leaves) := by
  have h1 := g.ok.l
  have h2 := g.ok.n1
  have h3 := g.r
  exact readC_of ⟨h3.1, by omega⟩ ⟨h1.1, h1.2, by omega⟩ g.c (fun _ => g.o)
theorem leavesOf_len (s : DS) (l : Int) : (s.leavesOf l).length = l.toNat := by unfold DS.leavesOf; simp
theorem leavesOf_get (s : DS) (l : Int) (k : Nat) (hk : k < l.toNat) : (s.leavesOf l)[k]? = some (s.now (2 + k)) := by
  unfold DS.leavesOf
  rw [List.getElem?_map, List.getElem?_range hk]
  rfl
theorem Good.opened {L : LS} {s : DS} {P : List (List Ent)} (g : Good L s P) (hl : L.lost = false) : openedL s = { L with used := 0, last := 0 } := by
  have h1 := g.ok.l
  have h2 := g.ok.n1
  have h3 := g.r
  have hH : (s.n : Int) - (2 + L.leaves) = (L.H s : Nat) := by unfold LS.H; omega
  obtain ⟨rest, hr, hs⟩ := g.lv
  have hlen := leavesOf_len s L.leaves
  rw [hr, List.length_append] at hlen
  have h96 : ∀ z ∈ rest, z.length = 96 := fun z hz => by
    have hz : z ∈ s.leavesOf L.leaves := by rw [hr]; exact List.mem_append_right _ hz
    obtain ⟨k, hk, rfl⟩ := List.mem_map.1 hz
    have := List.mem_range.1 hk
    exact (g.wf _ (by omega)).1
  have hPl : ∀ (P : List (List Ent)) (no : Int), (∀ e ∈ P, PostOk e (L.H s)) → P.length ≤ (postsFrom L.round no P).length := by
    intro P
    induction P with
    | nil => intro _ _; exact Nat.zero_le _
    | cons e P ih =>
      intro no hP
      have h1 := (hP e (List.mem_cons_self ..)).pad.2.1
      have h2 := ih (no + 1) (fun x hx => hP x (List.mem_cons_of_mem _ hx))
      show P.length + 1 ≤ (postL L.round no e ++ postsFrom L.round (no + 1) P).length
      rw [List.length_append, postL_len]
      omega
  have hp := hPl P 1 g.p
  unfold openedL
  rw [g.read]
  show (⟨L.round, L.leaves, 0, 0, readL L.round ((s.n : Int) - (2 + L.leaves)) (L.leaves.toNat + 1) (s.leavesOf L.leaves) 1 (fun _ => none), false⟩ : LS) = _
  rw [hr, hH, readL_posts ⟨by omega, by omega⟩ (by omega) P _ 1 _ rest g.p hs h96 (by omega), ← g.tk, ← hl]

theorem nowAfter_home {t : Nat → List Int} {b : Nat} {f : Int → List Int} : ∀ {ks : List Int} {j : Nat}, (∀ k ∈ ks, 0 ≤ k) → nowAfter t (ks.map fun k => ((b : Int) + k, f k)) j = if (j : Int) - b ∈ ks then f ((j : Int) - b) else t j
  | [], j, _ => by
    show t j = _
    rw [if_neg (by simp)]
  | k :: ks, j, h => by
    have hk := h k (List.mem_cons_self ..)
    show nowAfter (upd t ((b : Int) + k).toNat (f k)) (ks.map fun k => ((b : Int) + k, f k)) j = _
    rw [nowAfter_home (fun x hx => h x (List.mem_cons_of_mem _ hx))]
    by_cases h1 : (j : Int) - b ∈ ks
    · rw [if_pos h1, if_pos (List.mem_cons_of_mem _ h1)]
    · rw [if_neg h1]
      by_cases h2 : (j : Int) - b = k
      · rw [if_pos (by rw [h2]; exact List.mem_cons_self ..), h2, show j = ((b : Int) + k).toNat by omega, upd_same]
      · rw [upd_ne _ _ (by omega), if_neg (by
          intro h3
          rcases List.mem_cons.1 h3 with h3 | h3
          · exact h2 h3
          · exact h1 h3)]

theorem wf_upd {s : DS} (wf : s.Wf) {s' : DS} (hn : s'.n = s.n) {l : List (Int × List Int)} (hl : ∀ x ∈ l, x.2.length = 96 ∧ IsBytes x.2) (h : s'.now = nowAfter s.now l) : s'.Wf := by
  have key : ∀ (l : List (Int × List Int)) (t : Nat → List Int), (∀ x ∈ l, x.2.length = 96 ∧ IsBytes x.2) → (∀ k, k < s.n → (t k).length = 96 ∧ IsBytes (t k)) → ∀ k, k < s.n → (nowAfter t l k).length = 96 ∧ IsBytes (nowAfter t l k) := by
    intro l
    induction l with
    | nil => intro t _ h k hk; exact h k hk
    | cons y l ih =>
      intro t hl h k hk
      refine ih (upd t y.1.toNat y.2) (fun x hx => hl x (List.mem_cons_of_mem _ hx)) (fun j hj => ?_) k hk
      by_cases e : j = y.1.toNat
      · rw [e, upd_same]; exact hl y (List.mem_cons_self ..)
      · rw [upd_ne _ _ e]; exact h j hj
  intro k hk
  rw [h]
  exact key l s.now hl wf k (by omega)

/-- the balance of a ledger on a drum that goes -/
structure HomeTo (L : LS) (s s' : DS) : Prop where
  up : s'.Up
  n : s'.n = s.n
  kept : s'.kept = s'.now
  none : s'.up = []
  now : ∀ j, s'.now j = if j = ((L.round + 1) % 2).toNat then coverT (L.round + 1) L.leaves else if (2 + L.leaves.toNat ≤ j) ∧ j < s.n then view L s (j - (2 + L.leaves.toNat)) else s.now j
theorem goHome_up {L : LS} {s : DS} (up : s.Up) (ok : L.Ok s) : ∃ s', L.goHome s = (0, { L with round := L.round + 1, used := 0, last := 0, taken := fun _ => none }, s') ∧ HomeTo L s s' := by
  have hl := ok.l
  have hn := ok.n1
  have hr := ok.r
  have hH : ((L.H s : Nat) : Int) = s.n - (2 + L.leaves) := by unfold LS.H; omega
  have hb : ((2 + L.leaves.toNat : Nat) : Int) = 2 + L.leaves := by omega
  have hlays : ∀ x ∈ L.homeLays (L.H s), (0 ≤ x.1 ∧ x.1 < s.n) ∧ x.2.length = 96 := fun x hx => by
    rw [homeLays_eq] at hx
    obtain ⟨k, hk, rfl⟩ := List.mem_map.1 hx
    obtain ⟨⟨h1, h2⟩, h3⟩ := homeKeys_mem.1 hk
    obtain ⟨zs, hz⟩ := Option.isSome_iff_exists.1 h3
    refine ⟨⟨by show 0 ≤ 2 + L.leaves + k; omega, by show 2 + L.leaves + k < _; omega⟩, ?_⟩
    show ((L.taken k).getD []).length = 96
    rw [hz]
    exact (ok.z k zs hz).1
  obtain ⟨l1, l2, l3, l4, l5, l6⟩ := up.lays hlays
  have ht := l2.settle1.turned (r := L.round + 1) (l := L.leaves) (by show 2 ≤ (s.lays _).2.n; rw [l3]; omega) (by omega)
  have hse := l2.settle
  have hg := goHome_went (L := L) (s := s) (H := L.H s) rfl l1 l2.code (by rw [hse, ht])
  rw [hse, ht] at hg
  refine ⟨_, hg, (l2.settle1.lay1 _ _).settle1, by show (s.lays _).2.n = s.n; exact l3, rfl, rfl, fun j => ?_⟩
  show upd (s.lays (L.homeLays (L.H s))).2.now ((L.round + 1) % 2).toNat (coverT (L.round + 1) L.leaves) j = _
  by_cases hj : j = ((L.round + 1) % 2).toNat
  · rw [if_pos hj, hj, upd_same]
  · rw [if_neg hj, upd_ne _ _ hj, l4]
    have he : L.homeLays (L.H s) = (homeKeys L.taken (L.H s)).map fun k => (((2 + L.leaves.toNat : Nat) : Int) + k, (L.taken k).getD []) := by
      rw [hb]; rfl
    rw [he, nowAfter_home (fun k hk => (homeKeys_mem.1 hk).1.1)]
    by_cases h1 : (j : Int) - ((2 + L.leaves.toNat : Nat) : Int) ∈ homeKeys L.taken (L.H s)
    · obtain ⟨⟨h2, h3⟩, h4⟩ := homeKeys_mem.1 h1
      rw [if_pos h1, if_pos (by omega)]
      obtain ⟨zs, hz⟩ := Option.isSome_iff_exists.1 h4
      unfold view
      rw [show ((j - (2 + L.leaves.toNat) : Nat) : Int) = (j : Int) - ((2 + L.leaves.toNat : Nat) : Int) by omega, hz]
      rfl
    · rw [if_neg h1]
      by_cases h2 : 2 + L.leaves.toNat ≤ j ∧ j < s.n
      · rw [if_pos h2]
        have h3 : L.taken ((j - (2 + L.leaves.toNat) : Nat) : Int) = Option.none := by
          cases hh : L.taken ((j - (2 + L.leaves.toNat) : Nat) : Int) with
          | none => rfl
          | some z =>
            refine absurd (homeKeys_mem.2 ⟨⟨by omega, by omega⟩, ?_⟩) h1
            rw [show (j : Int) - ((2 + L.leaves.toNat : Nat) : Int) = ((j - (2 + L.leaves.toNat) : Nat) : Int) by omega, hh]
            rfl
        unfold view
        rw [h3, show 2 + L.leaves.toNat + (j - (2 + L.leaves.toNat)) = j by omega]
      · rw [if_neg h2]

end Go.Proofs.YtleoelhhndeheaaGreat

/- package ledger: what a drum that goes keeps: Found, goHome, Open, lay, Settle, a fall behind it -/
open Go Go.RowKit
namespace Go.Proofs.YtleoelhhndeheaaGreat

/-- and its numbers -/
structure Full (L : LS) (s : DS) (P : List (List Ent)) : Prop where
  g : Good L s P
  used : L.used = (postsFrom L.round 1 P).length
  last : L.last = P.length
  lost : L.lost = false
theorem view_wf {L : LS} {s : DS} (ok : L.Ok s) (wf : s.Wf) {k : Nat} (hk : k < L.H s) : (view L s k).length = 96 ∧ IsBytes (view L s k) := by
  have hl := ok.l
  unfold view
  cases hh : L.taken k with
  | some z => exact ok.z _ _ hh
  | none => exact wf _ (by unfold LS.H at hk; omega)
theorem HomeTo.wf {L : LS} {s s' : DS} (h : HomeTo L s s') (ok : L.Ok s) (wf : s.Wf) : s'.Wf := by
  have hl := ok.l
  intro k hk
  rw [h.n] at hk
  rw [h.now]
  split
  · exact ⟨coverT_length _ _, coverT_bytes _ _⟩
  · split
    · exact view_wf ok wf (by unfold LS.H; omega)
    · exact wf k hk
/-- the next round -/
def LS.next (L : LS) : LS := { L with round := L.round + 1, used := 0, last := 0, taken := fun _ => none }
theorem Good.homeTo {L : LS} {s s' : DS} {P : List (List Ent)} (g : Good L s P) (h : HomeTo L s s') (hr : L.round < 4294950000) : Good L.next s' [] ∧ ∀ k, k < L.H s → view L.next s' k = view L s k := by
  have hl := g.ok.l
  have hn := g.ok.n1
  have h3 := g.r
  have hH : L.next.H s' = L.H s := by unfold LS.H; rw [h.n]; rfl
  obtain ⟨rest, hr1, hr2⟩ := g.lv
  refine ⟨⟨h.up, h.wf g.ok g.wf, g.ok.to h.n rfl ⟨by show 0 ≤ L.round + 1; omega, by show L.round + 1 < _; omega⟩ ⟨Int.le_refl _, by show 0 ≤ L.leaves; omega⟩ ⟨Int.le_refl _, by show (0 : Int) < _; omega⟩ (.inr rfl), ⟨by show 0 < L.round + 1; omega, by show L.round + 1 < _; omega⟩, ?_, ?_, ⟨s'.leavesOf L.leaves, rfl, ?_⟩, (fun e he => by cases he), rfl⟩, fun k hk => ?_⟩
  · show s'.now ((L.round + 1) % 2).toNat = coverT (L.round + 1) L.leaves
    rw [h.now, if_pos rfl]
  · show num (cut (s'.now ((L.round + 1 + 1) % 2).toNat) 0 4) < L.round + 1
    have e : ((L.round + 1 + 1) % 2).toNat = (L.round % 2).toNat := by omega
    rw [e, h.now, if_neg (by omega), if_neg (by omega), g.c, coverT_round, num_lay4 ⟨by omega, by omega⟩]
    omega
  · intro z hz
    show Stale (L.round + 1) z
    obtain ⟨k, hk, rfl⟩ := List.mem_map.1 hz
    have hk := List.mem_range.1 hk
    have e : s'.now (2 + k) = s.now (2 + k) := by rw [h.now, if_neg (by omega), if_neg (by omega)]
    rw [e]
    have hm : s.now (2 + k) ∈ s.leavesOf L.leaves := List.mem_map.2 ⟨k, List.mem_range.2 hk, rfl⟩
    rw [hr1] at hm
    rcases List.mem_append.1 hm with hm | hm
    · exact (posts_stale ⟨by omega, by omega⟩ P 1 g.p _ hm).1
    · have := hr2 _ hm
      exact ⟨by have := this.1; omega, by have := this.2; omega⟩
  · show s'.now (2 + L.leaves.toNat + k) = _
    unfold LS.H at hk
    rw [h.now, if_neg (by omega), if_pos ⟨by omega, by omega⟩, show 2 + L.leaves.toNat + k - (2 + L.leaves.toNat) = k by omega]
theorem Full.goHome {L : LS} {s : DS} {P : List (List Ent)} (f : Full L s P) (hr : L.round < 4294950000) : ∃ s', L.goHome s = (0, L.next, s') ∧ Full L.next s' [] ∧ s'.n = s.n ∧ s'.kept = s'.now ∧ s'.up = [] ∧ ∀ k, k < L.H s → view L.next s' k = view L s k := by
  obtain ⟨s', h1, h2⟩ := goHome_up f.g.up f.g.ok
  obtain ⟨g1, g2⟩ := f.g.homeTo h2 hr
  exact ⟨s', h1, ⟨g1, rfl, rfl, f.lost⟩, h2.n, h2.kept, h2.none, g2⟩
/-- opened anew -/
theorem Good.openL {L : LS} {s : DS} {P : List (List Ent)} (g : Good L s P) (hl : L.lost = false) (hr : L.round < 4294950000) : ∃ s', s.openL = (0, L.next, s') ∧ Full L.next s' [] ∧ s'.n = s.n ∧ s'.kept = s'.now ∧ s'.up = [] ∧ ∀ k, k < L.H s → view L.next s' k = view L s k := by
  have ho := g.opened hl
  have h3 := g.r
  have g0 : Good { L with used := 0, last := 0 } s P := ⟨g.up, g.wf, g.ok.to rfl rfl g.ok.r ⟨Int.le_refl _, by show (0 : Int) ≤ L.leaves; have := g.ok.l; omega⟩ ⟨Int.le_refl _, by show (0 : Int) < _; omega⟩ (.inl rfl), g.r, g.c, g.o, g.lv, g.p, g.tk⟩
  obtain ⟨s', h1, h2⟩ := goHome_up g0.up g0.ok
  obtain ⟨g1, g2⟩ := g0.homeTo h2 hr
  refine ⟨s', ?_, ⟨g1, rfl, rfl, hl⟩, h2.n, h2.kept, h2.none, g2⟩
  rw [openL_of g.up.broken (by rw [g.read]; show L.round ≠ 0; omega), ho]
  exact h1

theorem Good.settle {L : LS} {s : DS} {P : List (List Ent)} (g : Good L s P) : Good L s.settle1 P :=
  ⟨g.up.settle1, g.wf, g.ok.to rfl rfl g.ok.r g.ok.u g.ok.k (.inl rfl), g.r, g.c, g.o, g.lv, g.p, g.tk⟩
theorem Full.settle {L : LS} {s : DS} {P : List (List Ent)} (f : Full L s P) : L.settle s = (0, L, s.settle1) ∧ Full L s.settle1 P := by
  refine ⟨?_, f.g.settle, f.used, f.last, f.lost⟩
  unfold LS.settle
  rw [f.lost, f.g.up.code, f.g.up.settle, ends_zero]
  rfl
theorem fall_settled {s : DS} (hu : s.up = []) (keep : List Int) (t c : Int) (hk : s.kept = s.now) : (s.fall keep t c).now = s.now ∧ (s.fall keep t c).kept = s.now ∧ (s.fall keep t c).n = s.n := by
  unfold DS.fall
  rw [hu]
  exact ⟨hk, hk, rfl⟩
theorem Good.fallen {L : LS} {s : DS} {P : List (List Ent)} (g : Good L s P) (hu : s.up = []) (hk : s.kept = s.now) (keep : List Int) (t c : Int) : Good L (s.fall keep t c) P ∧ ∀ k, view L (s.fall keep t c) k = view L s k := by
  obtain ⟨e1, e2, e3⟩ := fall_settled hu keep t c hk
  have hlv : (s.fall keep t c).leavesOf L.leaves = s.leavesOf L.leaves := by unfold DS.leavesOf; rw [e1]
  refine ⟨⟨DS.Up.fall _ _ _ _, fun k hkk => by rw [e1]; exact g.wf k (by rw [e3] at hkk; exact hkk), g.ok.to e3 rfl g.ok.r g.ok.u g.ok.k (.inl rfl), g.r, by rw [e1]; exact g.c, by rw [e1]; exact g.o, by rw [hlv]; exact g.lv, ?_, g.tk⟩, fun k => ?_⟩
  · have : L.H (s.fall keep t c) = L.H s := by unfold LS.H; rw [e3]
    rw [this]; exact g.p
  · unfold view; rw [e1]
theorem Full.balance {L : LS} {s : DS} {P : List (List Ent)} (f : Full L s P) (hr : L.round < 4294950000) : ∃ s', L.balance s = (0, L.next, s') ∧ Full L.next s' [] ∧ s'.n = s.n ∧ s'.kept = s'.now ∧ s'.up = [] ∧ ∀ k, k < L.H s → view L.next s' k = view L s k := by
  obtain ⟨h1, h2⟩ := f.settle
  obtain ⟨s', k1, k2, k3, k4, k5, k6⟩ := h2.goHome hr
  refine ⟨s', ?_, k2, k3, k4, k5, k6⟩
  unfold LS.balance
  rw [h1, if_pos rfl, k1, ends_zero]

/-- the tracks that entries give -/
def over (el : List Ent) (k : Nat) (z : List Int) : List Int := match putL (fun _ => none) el k with | some y => y | none => z
theorem putL_or : ∀ {el : List Ent} {t : Tkn} {k : Int}, putL t el k = (match putL (fun _ => none) el k with | some y => some y | none => t k) := by
  have gen : ∀ (el : List Ent) (t u : Tkn) (k : Int), (∀ j, t j = (match u j with | some y => some y | none => t j)) → putL t el k = (match putL u el k with | some y => some y | none => t k) := by
    intro el
    induction el with
    | nil => intro t u k h; exact h k
    | cons y el ih =>
      intro t u k h
      show putL (putE t y) el k = _
      have h2 := ih (putE t y) (putE u y) k (fun j => by
        unfold putE
        split
        · rfl
        · exact h j)
      rw [h2]
      show (match putL (putE u y) el k with | some z => some z | none => putE t y k) = match putL (putE u y) el k with | some z => some z | none => t k
      cases hp : putL (putE u y) el k with
      | some z => rfl
      | none =>
        show putE t y k = t k
        unfold putE
        split
        · rename_i e
          exfalso
          have key : ∀ (el : List Ent) (v : Tkn), (v k).isSome → (putL v el k).isSome := by
            intro el
            induction el with
            | nil => intro v hv; exact hv
            | cons x el ih2 =>
              intro v hv
              refine ih2 (putE v x) ?_
              unfold putE
              split
              · rfl
              · exact hv
          have := key el (putE u y) (by unfold putE; rw [if_pos e]; rfl)
          rw [hp] at this
          cases this
        · rfl
  intro el t k
  exact gen el t (fun _ => none) k (fun j => rfl)
theorem Full.lay {L : LS} {s : DS} {P : List (List Ent)} (f : Full L s P) {el : List Ent} (he : PostOk el (L.H s)) (hb : ∀ x ∈ el, IsBytes x.2) (hle : leavesN el.length ≤ L.leaves - L.used) (hla : L.last < 999999000) :
    ∃ L' s', L.lay s el = (0, L', s') ∧ Full L' s' (P ++ [el]) ∧ L'.round = L.round ∧ L'.leaves = L.leaves ∧ L'.last = L.last + 1 ∧ s'.n = s.n ∧ s'.kept = s.kept ∧ ∀ k, view L' s' k = over el k (view L s k) := by
  have hl := f.g.ok.l
  have hn := f.g.ok.n1
  have h3 := f.g.r
  have hu := f.g.ok.u
  obtain ⟨pl, hpl⟩ : ∃ pl, postL L.round (L.last + 1) el = pl := ⟨_, rfl⟩
  have hlen : pl.length = postN el := by rw [← hpl, postL_len]
  have hpN : (postN el : Int) = leavesN el.length := by unfold postN; rw [postN_eq he.pos]; rfl
  have hps := post_stale he ⟨by omega, by omega⟩ (L.last + 1) (r := L.round)
  rw [hpl] at hps
  obtain ⟨us, hus⟩ : ∃ us : Nat, L.used = us := ⟨L.used.toNat, by omega⟩
  have hidx : L.leafLays el = idxLays ((2 + us : Nat) : Int) pl := by
    unfold LS.leafLays
    rw [hpl, hus, show (2 : Int) + (us : Int) = ((2 + us : Nat) : Int) by omega]
  have hpb : ∀ z ∈ pl, IsBytes z := fun z hz => by
    rw [← hpl] at hz
    unfold postL at hz
    obtain ⟨k, hk, rfl⟩ := List.mem_map.1 hz
    unfold leafB
    exact closed_bytes (((((((lay4_bytes _).append (lay4_bytes _)).append (lay2_bytes _)).append (lay2_bytes _)).append (cut_bytes (padE_bytes hb _) _ _)).append (lay4_bytes _)).append (lay4_bytes _))
  have hmem : ∀ (ls : List (List Int)) (b : Nat), ∀ x ∈ idxLays (b : Int) ls, ((b : Int) ≤ x.1 ∧ x.1 < (b : Int) + ls.length) ∧ x.2 ∈ ls := by
    intro ls
    induction ls with
    | nil => intro b x hx; cases hx
    | cons z ls ih =>
      intro b x hx
      rcases List.mem_cons.1 hx with rfl | hx
      · exact ⟨⟨Int.le_refl _, by simp; omega⟩, List.mem_cons_self ..⟩
      · have := ih (b + 1) x (by rw [show ((b + 1 : Nat) : Int) = (b : Int) + 1 by omega]; exact hx)
        exact ⟨⟨by omega, by simp; omega⟩, List.mem_cons_of_mem _ this.2⟩
  have hlays : ∀ x ∈ L.leafLays el, (0 ≤ x.1 ∧ x.1 < s.n) ∧ x.2.length = 96 := fun x hx => by
    rw [hidx] at hx
    have := hmem pl (2 + us) x hx
    exact ⟨⟨by omega, by omega⟩, (hps _ this.2).2⟩
  obtain ⟨l1, l2, l3, l4, l5, l6⟩ := f.g.up.lays hlays
  have hnow : ∀ j, (s.lays (L.leafLays el)).2.now j = if 2 + us ≤ j ∧ j < 2 + us + pl.length then pl[j - (2 + us)]?.getD [] else s.now j := fun j => by
    rw [l4, hidx, nowAfter_idx]
  have hlayE : L.lay s el = (0, { L with used := L.used + (L.leafLays el).length, last := L.last + 1, taken := putL L.taken el }, (s.lays (L.leafLays el)).2) := by unfold LS.lay; rw [if_pos l1]
  have hLL : (L.leafLays el).length = pl.length := by rw [hidx, idxLays_length]
  have keep := LS.lay_keep f.g.ok he.may hb hle hla
  rw [hlayE] at keep
  have hH : ({ L with used := L.used + (L.leafLays el).length, last := L.last + 1, taken := putL L.taken el } : LS).H (s.lays (L.leafLays el)).2 = L.H s := by unfold LS.H; rw [l3]
  obtain ⟨rest, hr1, hr2⟩ := f.g.lv
  have hul : us = (postsFrom L.round 1 P).length := by have := f.used; omega
  refine ⟨_, _, hlayE, ⟨⟨l2, ?_, keep.ok, h3, ?_, ?_, ⟨rest.drop pl.length, ?_, fun z hz => hr2 z (List.mem_of_mem_drop hz)⟩, ?_, ?_⟩, ?_, ?_, f.lost⟩, rfl, rfl, rfl, l3, l5, fun k => ?_⟩
  · refine wf_upd f.g.wf l3 (fun x hx => ?_) l4
    rw [hidx] at hx
    have := hmem pl (2 + us) x hx
    exact ⟨(hps _ this.2).2, hpb _ this.2⟩
  · show (s.lays (L.leafLays el)).2.now (L.round % 2).toNat = coverT L.round L.leaves
    rw [hnow, if_neg (by omega)]
    exact f.g.c
  · show num (cut ((s.lays (L.leafLays el)).2.now ((L.round + 1) % 2).toNat) 0 4) < L.round
    rw [hnow, if_neg (by omega)]
    exact f.g.o
  · show (s.lays (L.leafLays el)).2.leavesOf L.leaves = postsFrom L.round 1 (P ++ [el]) ++ rest.drop pl.length
    have e1 : postsFrom L.round 1 (P ++ [el]) = postsFrom L.round 1 P ++ pl := by
      rw [postsFrom_append, show (1 : Int) + P.length = L.last + 1 by have := f.last; omega]
      show _ ++ (postL L.round (L.last + 1) el ++ []) = _
      rw [List.append_nil, hpl]
    have hlenA := leavesOf_len s L.leaves
    rw [hr1, List.length_append, ← hul] at hlenA
    refine List.ext_getElem? (fun j => ?_)
    by_cases hj : j < L.leaves.toNat
    · rw [leavesOf_get _ _ _ hj, hnow, e1]
      have h0 := leavesOf_get s L.leaves j hj
      rw [hr1] at h0
      by_cases h1 : j < us
      · rw [if_neg (by omega), ← h0, List.append_assoc, List.getElem?_append_left (by omega), List.getElem?_append_left (by omega)]
      · by_cases h2 : j < us + pl.length
        · rw [if_pos (by omega), List.append_assoc, List.getElem?_append_right (by omega), List.getElem?_append_left (by omega), show 2 + j - (2 + us) = j - (postsFrom L.round 1 P).length by omega]
          rw [List.getElem?_eq_getElem (by omega)]
          rfl
        · rw [if_neg (by omega), ← h0, List.getElem?_append_right (by omega), List.getElem?_append_right (by rw [List.length_append]; omega), List.getElem?_drop, List.length_append]
          congr 1
          omega
    · rw [List.getElem?_eq_none (by rw [leavesOf_len]; omega), List.getElem?_eq_none (by rw [e1, List.length_append, List.length_append, List.length_drop]; omega)]
  · intro e he2
    rw [hH]
    rcases List.mem_append.1 he2 with h | h
    · exact f.g.p e h
    · rw [List.mem_singleton.1 h]; exact he
  · show putL L.taken el = _
    rw [f.g.tk, List.foldl_append]
    rfl
  · show L.used + _ = _
    rw [postsFrom_append, List.length_append, show (1 : Int) + P.length = L.last + 1 by have := f.last; omega]
    show _ = (((postsFrom L.round 1 P).length + (postL L.round (L.last + 1) el ++ []).length : Nat) : Int)
    rw [List.append_nil, hpl, hLL, hus, hul]
    omega
  · show L.last + 1 = _
    rw [f.last, List.length_append]
    rfl
  · unfold view over
    show (match putL L.taken el k with | some z => z | none => (s.lays (L.leafLays el)).2.now (2 + L.leaves.toNat + k)) = _
    rw [putL_or]
    cases putL (fun _ => none) el (k : Int) with
    | some y => rfl
    | none =>
      show (match L.taken k with | some z => z | none => (s.lays (L.leafLays el)).2.now (2 + L.leaves.toNat + k)) = (match L.taken k with | some z => z | none => s.now (2 + L.leaves.toNat + k))
      rw [hnow, if_neg (by omega)]

/-- a write -/
theorem Full.write {L : LS} {s : DS} {P : List (List Ent)} (f : Full L s P) {el : List Ent} (he : el.length ≤ 600) (hb : ∀ x ∈ el, IsBytes x.2) (hla : L.last < 999999000) (hr : L.round < 4294950000) :
    (mayE el (L.H s) = false ∧ L.write s el = (1, L, s)) ∨ (mayE el (L.H s) = true ∧ leavesN el.length > L.leaves ∧ L.write s el = (5, L, s)) ∨
      (mayE el (L.H s) = true ∧ leavesN el.length ≤ L.leaves ∧ ∃ L' s' P', L.write s el = (0, L', s') ∧ Full L' s' P' ∧ L'.leaves = L.leaves ∧ s'.n = s.n ∧ L'.round ≤ L.round + 1 ∧ L'.last ≤ L.last + 1 ∧ ∀ k, k < L.H s → view L' s' k = over el k (view L s k)) := by
  have hl := f.g.ok.l
  have hn := f.g.ok.n1
  have hHb : (L.H s : Int) ≤ 65536 := by unfold LS.H; omega
  cases hm : mayE el (L.H s) with
  | false => exact .inl ⟨rfl, by unfold LS.write; rw [hm]; rfl⟩
  | true =>
    refine .inr ?_
    by_cases h1 : leavesN el.length > L.leaves
    · exact .inl ⟨rfl, h1, by unfold LS.write; rw [if_pos hm, f.lost, if_pos h1]; rfl⟩
    · refine .inr ⟨rfl, by omega, ?_⟩
      have hpo : PostOk el (L.H s) := ⟨hm, hHb, he⟩
      by_cases h2 : leavesN el.length > L.leaves - L.used
      · obtain ⟨s1, b1, b2, b3, b4, b5, b6⟩ := f.balance hr
        have hH1 : L.next.H s1 = L.H s := by unfold LS.H; rw [b3]; rfl
        obtain ⟨L', s', c1, c2, c3, c4, c5, c6, c7, c8⟩ := b2.lay (el := el) (by rw [hH1]; exact hpo) hb (by show leavesN el.length ≤ L.leaves - 0; omega) (by show (0 : Int) < _; omega)
        refine ⟨L', s', _, ?_, c2, c4, by rw [c6, b3], by rw [c3]; exact Int.le_refl _, by rw [c5]; show (0 : Int) + 1 ≤ _; have := f.g.ok.k; omega, fun k hk => by rw [c8, b6 k hk]⟩
        unfold LS.write LS.layEnds
        rw [if_pos hm, f.lost, if_neg h1, if_pos h2, b1]
        show (if (0 : Int) = 0 then ((L.next.lay s1 el).1, (L.next.lay s1 el).2.1.ends (L.next.lay s1 el).1, (L.next.lay s1 el).2.2) else L.balance s) = _
        rw [if_pos rfl, c1, ends_zero]
      · obtain ⟨L', s', c1, c2, c3, c4, c5, c6, c7, c8⟩ := f.lay hpo hb (by omega) hla
        refine ⟨L', s', _, ?_, c2, c4, c6, by rw [c3]; omega, by rw [c5]; exact Int.le_refl _, fun k _ => c8 k⟩
        unfold LS.write LS.layEnds
        rw [if_pos hm, f.lost, if_neg h1, if_neg h2, c1, ends_zero]
        rfl

/-- founded anew -/
theorem founded_up {n : Nat} {l : Int} (hn : n ≤ 4096) (hm : mayC 1 l n = true) : ∃ s', (DS.new n).founded l = (0, s') ∧ s'.n = n ∧ s'.kept = s'.now ∧ s'.up = [] ∧ s'.Up ∧ s'.Wf ∧ s'.now 1 = coverT 1 l ∧ ∀ j, j ≠ 1 → s'.now j = zeros96 := by
  have hl : 5 ≤ l ∧ l + 4 ≤ n := by
    unfold mayC at hm
    simp at hm
    omega
  have h0 := DS.Up.new n
  have hlays : ∀ x ∈ zLays (2 + l).toNat, (0 ≤ x.1 ∧ x.1 < (DS.new n).n) ∧ x.2.length = 96 := fun x hx => by
    obtain ⟨k, hk, rfl⟩ := List.mem_map.1 hx
    have := List.mem_range.1 hk
    exact ⟨⟨by show 0 ≤ (k : Int); omega, by show (k : Int) < (n : Int); omega⟩, zeros96_len⟩
  obtain ⟨l1, l2, l3, l4, l5, l6⟩ := h0.lays hlays
  have hz : ∀ (l : List (Int × List Int)) (t : Nat → List Int), (∀ x ∈ l, x.2 = zeros96) → (∀ j, t j = zeros96) → ∀ j, nowAfter t l j = zeros96 := by
    intro l
    induction l with
    | nil => intro t _ h j; exact h j
    | cons y l ih =>
      intro t hl h j
      refine ih (upd t y.1.toNat y.2) (fun x hx => hl x (List.mem_cons_of_mem _ hx)) (fun i => ?_) j
      by_cases e : i = y.1.toNat
      · rw [e, upd_same]; exact hl y (List.mem_cons_self ..)
      · rw [upd_ne _ _ e]; exact h i
  have hnow : ∀ j, ((DS.new n).lays (zLays (2 + l).toNat)).2.now j = zeros96 := fun j => by
    rw [l4]
    exact hz _ _ (fun x hx => by obtain ⟨k, hk, rfl⟩ := List.mem_map.1 hx; rfl) (fun _ => rfl) j
  have ht := l2.settle1.turned (r := 1) (l := l) (by show 2 ≤ ((DS.new n).lays _).2.n; rw [l3]; show 2 ≤ n; omega) (by decide)
  have hf : (DS.new n).founded l = (0, ((((DS.new n).lays (zLays (2 + l).toNat)).2.settle1.lay1 ((1 : Int) % 2).toNat (coverT 1 l)).settle1)) := by
    have hm' : mayC 1 l (DS.new n).n = true := hm
    unfold DS.founded
    rw [if_pos hm', if_pos l1, if_pos l2.code, l2.settle, ht]
  have hnj : ∀ j, (((((DS.new n).lays (zLays (2 + l).toNat)).2.settle1.lay1 ((1 : Int) % 2).toNat (coverT 1 l)).settle1)).now j = if j = 1 then coverT 1 l else zeros96 := fun j => by
    show upd ((DS.new n).lays (zLays (2 + l).toNat)).2.now 1 (coverT 1 l) j = _
    by_cases e : j = 1
    · subst e; rw [upd_same, if_pos rfl]
    · rw [upd_ne _ _ e, if_neg e, hnow]
  refine ⟨_, hf, l3, rfl, rfl, (l2.settle1.lay1 _ _).settle1, fun k _ => ?_, by rw [hnj, if_pos rfl], fun j hj => by rw [hnj, if_neg hj]⟩
  rw [hnj]
  split
  · exact ⟨coverT_length _ _, coverT_bytes _ _⟩
  · exact ⟨zeros96_len, fun x hx => by have := (List.mem_replicate.1 hx).2; subst this; decide⟩
/-- a ledger that was founded, and opened -/
theorem found_up {n : Nat} {l : Int} (hn : n ≤ 4096) (hm : mayC 1 l n = true) : ∃ s1 s2 L, (DS.new n).founded l = (0, s1) ∧ s1.openL = (0, L, s2) ∧ Full L s2 [] ∧ L.leaves = l ∧ L.round = 2 ∧ s1.n = n ∧ s2.n = n ∧ s2.kept = s2.now ∧ s2.up = [] ∧ s1.up = [] ∧ ∀ k, k < L.H s2 → view L s2 k = zeros96 := by
  have hl : 5 ≤ l ∧ l + 4 ≤ n := by
    unfold mayC at hm
    simp at hm
    omega
  obtain ⟨s1, f1, f2, f3, f4, f5, f6, f7, f8⟩ := founded_up hn hm
  let L0 : LS := ⟨1, l, 0, 0, fun _ => none, false⟩
  have hz4 : num (cut zeros96 0 4) = 0 ∧ num (cut zeros96 80 4) = 0 := by decide
  have g : Good L0 s1 [] := by
    refine ⟨f5, f6, ⟨by rw [f2]; exact hn, ⟨(by decide : (0 : Int) ≤ 1), (by decide : (1 : Int) < 281474976710000)⟩, ⟨hl.1, by rw [f2]; exact hl.2⟩, ⟨Int.le_refl _, by show (0 : Int) ≤ l; omega⟩, ⟨Int.le_refl _, (by decide : (0 : Int) < 1000000000)⟩, (fun x hx => by cases hx), (fun x zs hx => by cases hx)⟩, ⟨(by decide : (0 : Int) < 1), (by decide : (1 : Int) < 4294960000)⟩, f7, ?_, ⟨s1.leavesOf l, rfl, ?_⟩, (fun e he => by cases he), rfl⟩
    · show num (cut (s1.now 0) 0 4) < 1
      rw [f8 0 (by decide), hz4.1]
      decide
    · intro z hz
      obtain ⟨k, hk, rfl⟩ := List.mem_map.1 hz
      rw [f8 _ (by omega)]
      exact ⟨by rw [hz4.1]; exact (by decide : (0 : Int) < 1), by rw [hz4.2]; exact (by decide : (0 : Int) < 1)⟩
  obtain ⟨s2, o1, o2, o3, o4, o5, o6⟩ := g.openL rfl (by decide : (1 : Int) < 4294950000)
  refine ⟨s1, s2, L0.next, f1, o1, o2, rfl, rfl, f2, by rw [o3, f2], o4, o5, f4, fun k hk => ?_⟩
  have hH : L0.next.H s2 = L0.H s1 := by unfold LS.H; rw [o3]; rfl
  rw [o6 k (by rw [← hH]; exact hk)]
  show s1.now (2 + L0.leaves.toNat + k) = _
  exact f8 _ (by omega)

end Go.Proofs.YtleoelhhndeheaaGreat
