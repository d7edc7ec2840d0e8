/- DrumTurns: the drum and the reference's drum agree -/
import Derived.Test.YtfijglkealnopaaRefD6
open Go Go.RowKit
namespace Go.Proofs.Ytfijglkealnopaa

structure Agree (s : DS) (t : RS) : Prop where
  n : t.n = s.n
  K : ∀ k, k < s.n → t.K k = s.kept k
  up : t.up = s.up
  left : s.broken = false → (s.fuse = none ∧ t.left = -1) ∨ (∃ x, s.fuse = some x ∧ t.left = x ∧ 0 ≤ x)
  broken : t.broken = s.broken
  turns : t.turns = s.turns
  now : ∀ k, k < s.n → s.now k = t.look k
  small : 0 ≤ s.turns ∧ s.turns ≤ 1000
theorem Agree.new (n : Nat) : Agree (DS.new n) (RS.new n) := ⟨rfl, fun _ _ => rfl, rfl, fun _ => .inl ⟨rfl, rfl⟩, rfl, rfl, fun _ _ => rfl, by show (0 : Int) ≤ 0 ∧ (0 : Int) ≤ 1000; omega⟩

theorem lookTo_prefix (s s' : RS) (k : Nat) : ∀ j, (∀ i, i < j → s'.up[i]? = s.up[i]?) → s'.K k = s.K k → s'.lookTo k j = s.lookTo k j
  | 0, _, h => h
  | j + 1, h, hK => by
    rw [lookTo_succ, lookTo_succ, h j (by omega), lookTo_prefix s s' k j (fun i hi => h i (by omega)) hK]

theorem Agree.turn {s : DS} {t : RS} (h : Agree s t) (hs : s.turns ≤ 999) : Agree s.turn t.turn ∧ s.code = t.code ∧ s.turn.turns ≤ s.turns + 1 := by
  obtain ⟨n, kept, now, up, fuse, broken, turns⟩ := s
  obtain ⟨n', K, up', left, broken', turns'⟩ := t
  obtain ⟨h1, h2, h3, h4, h5, h6, h7, h8⟩ := h
  simp only at h1 h2 h3 h4 h5 h6 h7 h8 hs
  subst h1 h3 h5 h6
  have h9 : ∀ l b t k, k < n' → now k = (RS.mk n' K up' l b t).look k := fun l b t k hk => (h7 k hk).trans (lookTo_prefix ⟨n', K, up', l, b, t⟩ _ k _ (fun _ _ => rfl) rfl)
  cases broken' with
  | true =>
    have e1 : (RS.turn ⟨n', K, up', left, true, turns'⟩) = ⟨n', K, up', left, true, turns'⟩ := by simp [RS.turn]
    have e2 : (RS.code ⟨n', K, up', left, true, turns'⟩) = 4 := by simp [RS.code]
    rw [e1, e2]
    have key : ∀ f, ∃ f', (DS.turn ⟨n', kept, now, up', f, true, turns'⟩) = ⟨n', kept, now, up', f', true, turns'⟩ := by
      intro f
      unfold DS.turn
      split
      · exact ⟨_, rfl⟩
      · exact ⟨_, rfl⟩
      · exact ⟨_, rfl⟩
    obtain ⟨f', hf⟩ := key fuse
    refine ⟨?_, ?_, ?_⟩
    · rw [hf]
      exact ⟨rfl, h2, rfl, (fun h => (by cases h)), rfl, rfl, h9 _ _ _, h8⟩
    · unfold DS.code DS.goes
      rw [hf]
      rfl
    · rw [hf]; show turns' ≤ turns' + 1; omega
  | false =>
    rcases h4 rfl with ⟨rfl, rfl⟩ | ⟨x, rfl, rfl, hx⟩
    · have e1 : (RS.turn ⟨n', K, up', -1, false, turns'⟩) = ⟨n', K, up', -1, false, turns' + 1⟩ := rfl
      have e2 : (RS.code ⟨n', K, up', -1, false, turns'⟩) = 0 := by simp [RS.code]
      have e3 : (DS.turn ⟨n', kept, now, up', none, false, turns'⟩) = ⟨n', kept, now, up', none, false, turns' + 1⟩ := by
        unfold DS.turn
        simp only [Bool.false_eq_true, if_false]
        congr 1
        unfold more; omega
      refine ⟨?_, ?_, ?_⟩
      · rw [e1, e3]
        exact ⟨rfl, h2, rfl, fun _ => .inl ⟨rfl, rfl⟩, rfl, rfl, h9 _ _ _, by show 0 ≤ turns' + 1 ∧ turns' + 1 ≤ 1000; omega⟩
      · unfold DS.code DS.goes
        rw [e2, e3]
        rfl
      · rw [e3]; exact Int.le_refl _
    · by_cases h0 : left = 0
      · subst h0
        have e1 : (RS.turn ⟨n', K, up', 0, false, turns'⟩) = ⟨n', K, up', 0, true, turns'⟩ := by simp [RS.turn]
        have e2 : (RS.code ⟨n', K, up', 0, false, turns'⟩) = 4 := by simp [RS.code]
        have e3 : (DS.turn ⟨n', kept, now, up', some 0, false, turns'⟩) = ⟨n', kept, now, up', some 0, true, turns'⟩ := rfl
        refine ⟨?_, ?_, ?_⟩
        · rw [e1, e3]
          exact ⟨rfl, h2, rfl, (fun h => (by cases h)), rfl, rfl, h9 _ _ _, h8⟩
        · unfold DS.code DS.goes
          rw [e2, e3]
          rfl
        · rw [e3]; show turns' ≤ turns' + 1; omega
      · have e1 : (RS.turn ⟨n', K, up', left, false, turns'⟩) = ⟨n', K, up', left - 1, false, turns' + 1⟩ := by
          simp only [RS.turn, Bool.false_or, beq_iff_eq, h0, if_false]
          congr 1
          omega
        have e2 : (RS.code ⟨n', K, up', left, false, turns'⟩) = 0 := by simp [RS.code, h0]
        have e3 : (DS.turn ⟨n', kept, now, up', some left, false, turns'⟩) = ⟨n', kept, now, up', some (left - 1), false, turns' + 1⟩ := by
          unfold DS.turn
          split
          · rename_i h; simp at h; omega
          · rename_i h; simp at h; subst h
            simp only [Bool.false_eq_true, if_false]
            congr 1
            unfold more; omega
          · rename_i h; simp at h
        refine ⟨?_, ?_, ?_⟩
        · rw [e1, e3]
          exact ⟨rfl, h2, rfl, fun _ => .inr ⟨left - 1, rfl, rfl, by omega⟩, rfl, rfl, h9 _ _ _, by show 0 ≤ turns' + 1 ∧ turns' + 1 ≤ 1000; omega⟩
        · unfold DS.code DS.goes
          rw [e2, e3]
          rfl
        · rw [e3]; exact Int.le_refl _

theorem setTo_look (s : RS) (k : Nat) : ∀ j, s.setTo j k = s.lookTo k j
  | 0 => rfl
  | j + 1 => by
    rw [lookTo_succ]
    show upd (s.setTo j) (s.up[j]?.getD (0, [])).1 (s.up[j]?.getD (0, [])).2 k = _
    by_cases e : (s.up[j]?.getD (0, [])).1 = k
    · rw [if_pos e, e, upd_same]
    · rw [if_neg e, upd_ne _ _ (fun h => e h.symm), setTo_look s k j]

theorem Agree.lay {s : DS} {t : RS} (h : Agree s t) (hs : s.turns ≤ 999) (k : Int) (zs : List Int) : Agree (s.lay k zs) (t.lay k zs) ∧ s.layCode k zs = t.layCode k zs ∧ (s.lay k zs).turns ≤ s.turns + 1 ∧ (s.lay k zs).up.length ≤ s.up.length + 1 := by
  obtain ⟨h1, h2, h3⟩ := h.turn hs
  have hf : t.fits k zs = s.fits k zs := by unfold RS.fits DS.fits; rw [h.n]
  have hg : s.code = 0 ↔ s.goes = true := by unfold DS.code; split <;> simp_all
  have hup : s.turn.up = s.up := (turn_parts s).2.2.2
  unfold DS.lay RS.lay DS.layCode RS.layCode
  rw [hf, h2]
  by_cases e : s.fits k zs = true
  · simp only [e, if_true]
    by_cases e2 : s.goes = true
    · rw [if_pos e2, if_pos (by rw [← h2]; exact hg.2 e2)]
      refine ⟨⟨h1.n, h1.K, by show t.turn.up ++ _ = s.turn.up ++ _; rw [h1.up], h1.left, h1.broken, h1.turns, fun j hj => ?_, h1.small⟩, trivial, h3, by show (s.turn.up ++ [_]).length ≤ _; rw [hup]; simp⟩
      show upd s.turn.now k.toNat zs j = RS.lookTo { t.turn with up := t.turn.up ++ [(k.toNat, zs)] } j (t.turn.up ++ [(k.toNat, zs)]).length
      rw [List.length_append, List.length_singleton, lookTo_succ]
      show _ = if ((t.turn.up ++ [(k.toNat, zs)])[t.turn.up.length]?.getD (0, [])).1 = j then _ else _
      rw [List.getElem?_append_right (Nat.le_refl _), Nat.sub_self]
      show _ = if k.toNat = j then zs else RS.lookTo _ j t.turn.up.length
      by_cases e3 : j = k.toNat
      · subst e3; rw [upd_same, if_pos rfl]
      · rw [upd_ne _ _ e3, if_neg (fun h => e3 h.symm)]
        exact (h1.now j hj).trans (lookTo_prefix t.turn { t.turn with up := t.turn.up ++ [(k.toNat, zs)] } j t.turn.up.length (fun i hi => List.getElem?_append_left hi) rfl).symm
    · rw [if_neg e2, if_neg (by rw [← h2]; exact fun h => e2 (hg.1 h))]
      exact ⟨h1, trivial, h3, by rw [hup]; omega⟩
  · simp only [e, if_false, Bool.false_eq_true]
    exact ⟨h, trivial, by omega, by omega⟩

theorem Agree.settle {s : DS} {t : RS} (h : Agree s t) (hs : s.turns ≤ 999) : Agree s.settle t.settle ∧ s.settle.turns ≤ s.turns + 1 ∧ s.settle.up.length ≤ s.up.length := by
  obtain ⟨h1, h2, h3⟩ := h.turn hs
  have hg : s.code = 0 ↔ s.goes = true := by unfold DS.code; split <;> simp_all
  have hup : s.turn.up = s.up := (turn_parts s).2.2.2
  have hnow : s.turn.now = s.now := (turn_parts s).2.2.1
  unfold DS.settle RS.settle
  by_cases e2 : s.goes = true
  · rw [if_pos e2, if_pos (by rw [← h2]; exact hg.2 e2)]
    refine ⟨⟨h1.n, fun k hk => ?_, rfl, h1.left, h1.broken, h1.turns, fun k hk => ?_, h1.small⟩, h3, Nat.zero_le _⟩
    · show t.turn.setTo t.turn.up.length k = s.now k
      rw [setTo_look, ← hnow]
      exact (h1.now k hk).symm
    · show s.turn.now k = t.turn.setTo t.turn.up.length k
      rw [setTo_look]
      exact h1.now k hk
  · rw [if_neg e2, if_neg (by rw [← h2]; exact fun h => e2 (hg.1 h))]
    exact ⟨h1, h3, by rw [hup]; omega⟩

theorem Agree.brk {s : DS} {t : RS} (h : Agree s t) {a : Int} (ha : a ≤ 100) : Agree (s.brk a) (t.brk a) := by
  refine ⟨h.n, h.K, h.up, fun _ => ?_, h.broken, h.turns, fun k hk => (h.now k hk).trans (lookTo_prefix (t.brk a) t k t.up.length (fun _ _ => rfl) rfl), h.small⟩
  show ((if 0 ≤ a then some (clip a) else none) = none ∧ max (-1) a = -1) ∨ ∃ x, (if 0 ≤ a then some (clip a) else none) = some x ∧ max (-1) a = x ∧ 0 ≤ x
  by_cases h0 : 0 ≤ a
  · rw [if_pos h0]
    exact .inr ⟨clip a, rfl, by unfold clip; omega, by unfold clip; omega⟩
  · rw [if_neg h0]
    exact .inl ⟨rfl, by omega⟩

theorem Agree.fall {s : DS} {t : RS} (h : Agree s t) (hw : ∀ k, k < s.n → (s.kept k).length = 96) (hu : ∀ p ∈ s.up, p.1 < s.n ∧ p.2.length = 96) (keep : List Int) (torn cut : Int) : Agree (s.fall keep torn cut) (t.fall keep torn cut) := by
  have hc : cutOf cut ≤ 96 := by unfold cutOf; omega
  have key : ∀ j, j ≤ s.up.length → ∀ k, k < s.n → t.fallTo keep torn (cutOf cut) j k = s.fallTo keep torn (cutOf cut) j k ∧ (s.fallTo keep torn (cutOf cut) j k).length = 96 := by
    intro j
    induction j with
    | zero => exact fun _ k hk => ⟨h.K k hk, hw k hk⟩
    | succ j ih =>
      intro hj k hk
      have ih := ih (by omega)
      have hq : s.up[j]? = some s.up[j] := List.getElem?_eq_getElem (by omega)
      have hmem : s.up[j] ∈ s.up := List.getElem_mem _
      obtain ⟨⟨a, z⟩, hx⟩ : ∃ x, s.up[j] = x := ⟨_, rfl⟩
      rw [hx] at hq hmem
      obtain ⟨u1, u2⟩ := hu _ hmem
      simp only at u1 u2
      have hqt : t.up[j]? = some (a, z) := by rw [h.up]; exact hq
      show upd (t.fallTo keep torn (cutOf cut) j) (t.up[j]?.getD (0, [])).1 ((t.up[j]?.getD (0, [])).2.take (partOf keep torn (cutOf cut) j) ++ (t.fallTo keep torn (cutOf cut) j (t.up[j]?.getD (0, [])).1).drop (partOf keep torn (cutOf cut) j)) k = fallOne keep torn (cutOf cut) (s.fallTo keep torn (cutOf cut) j) j (s.up[j]?.getD (0, [])) k ∧ (fallOne keep torn (cutOf cut) (s.fallTo keep torn (cutOf cut) j) j (s.up[j]?.getD (0, [])) k).length = 96
      rw [hq, hqt]
      show upd (t.fallTo keep torn (cutOf cut) j) a (z.take (partOf keep torn (cutOf cut) j) ++ (t.fallTo keep torn (cutOf cut) j a).drop (partOf keep torn (cutOf cut) j)) k = fallOne keep torn (cutOf cut) (s.fallTo keep torn (cutOf cut) j) j (a, z) k ∧ (fallOne keep torn (cutOf cut) (s.fallTo keep torn (cutOf cut) j) j (a, z) k).length = 96
      obtain ⟨ia, la⟩ := ih a u1
      obtain ⟨ik, lk⟩ := ih k hk
      rw [ia]
      unfold partOf fallOne
      by_cases e1 : (j : Int) ∈ keep
      · rw [if_pos e1, if_pos e1]
        by_cases e : k = a
        · subst e
          simp only [upd_same]
          rw [List.take_of_length_le (by omega), List.drop_eq_nil_of_le (by omega), List.append_nil]
          exact ⟨rfl, u2⟩
        · rw [upd_ne _ _ e]
          show t.fallTo keep torn (cutOf cut) j k = upd _ a z k ∧ (upd _ a z k).length = 96
          rw [upd_ne _ _ e]
          exact ⟨ik, lk⟩
      · rw [if_neg e1, if_neg e1]
        by_cases e2 : (j : Int) = torn
        · rw [if_pos e2, if_pos e2]
          by_cases e : k = a
          · subst e
            show upd _ k _ k = upd _ k _ k ∧ List.length (upd _ k _ k) = 96
            rw [upd_same, upd_same]
            refine ⟨rfl, ?_⟩
            have u3 : (k, z).2.length = 96 := u2
            rw [List.length_append, List.length_take, List.length_drop, la, u3]
            omega
          · show upd _ a _ k = upd _ a _ k ∧ List.length (upd _ a _ k) = 96
            rw [upd_ne _ _ e, upd_ne _ _ e]
            exact ⟨ik, lk⟩
        · rw [if_neg e2, if_neg e2]
          by_cases e : k = a
          · subst e
            rw [upd_same]
            simp only [List.take_zero, List.nil_append, List.drop_zero]
            exact ⟨trivial, la⟩
          · rw [upd_ne _ _ e]
            exact ⟨ik, lk⟩
  have hl : t.up.length = s.up.length := by rw [h.up]
  refine ⟨h.n, fun k hk => ?_, rfl, fun _ => .inl ⟨rfl, rfl⟩, rfl, h.turns, fun k hk => ?_, h.small⟩
  · show t.fallTo keep torn (cutOf cut) t.up.length k = _
    rw [hl]
    exact (key s.up.length (Nat.le_refl _) k hk).1
  · show _ = t.fallTo keep torn (cutOf cut) t.up.length k
    rw [hl]
    exact (key s.up.length (Nat.le_refl _) k hk).1.symm

end Go.Proofs.Ytfijglkealnopaa
