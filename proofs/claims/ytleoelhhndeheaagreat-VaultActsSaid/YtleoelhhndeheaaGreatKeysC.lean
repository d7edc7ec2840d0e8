/- a map's keys, sorted -/
import Derived.Test.YtleoelhhndeheaaGreatKeysP
import Derived.Test.YtleoelhhndeheaaGreatLedI
import Derived.Lib.SlKeysI
open Go Go.RowKit Go.Maps Go.Sort Go.Shelf
namespace Go.Proofs.YtleoelhhndeheaaGreat

theorem homeKeys_mem {T : Tkn} {H : Nat} {k : Int} : k ∈ homeKeys T H ↔ (0 ≤ k ∧ k < H) ∧ (T k).isSome := by
  unfold homeKeys
  rw [List.mem_filter, List.mem_map]
  constructor
  · rintro ⟨⟨n, hn, rfl⟩, h⟩
    have := List.mem_range.1 hn
    exact ⟨by omega, h⟩
  · rintro ⟨⟨h1, h2⟩, h3⟩
    exact ⟨⟨k.toNat, List.mem_range.2 (by omega), by omega⟩, h3⟩
theorem homeKeys_sorted (T : Tkn) (H : Nat) : (homeKeys T H).Pairwise (fun a b => a < b) := by
  unfold homeKeys
  refine List.Pairwise.filter _ ?_
  rw [List.pairwise_map]
  exact List.pairwise_lt_range.imp (fun {a b} h => by omega)
theorem homeKeys_nodup (T : Tkn) (H : Nat) : (homeKeys T H).Nodup := (homeKeys_sorted T H).imp (fun {a b} h => by omega)
theorem homeKeys_length (T : Tkn) (H : Nat) : (homeKeys T H).length ≤ H := by
  unfold homeKeys
  have := List.length_filter_le (fun k => (T k).isSome) ((List.range H).map fun (k : Nat) => (k : Int))
  simpa using this
theorem homeKeys_merge {T : Tkn} {H : Nat} {ss : List Int} (h : ss.Perm (homeKeys T H)) : ss.mergeSort leI = homeKeys T H := by
  rw [mergeSort_of_perm_i h]
  exact List.mergeSort_of_pairwise ((homeKeys_sorted T H).imp (fun {a b} h => by simp only [leI, decide_eq_true_eq]; omega))

theorem sorts_in (m : Nat) : AnyZI.SortsIn Tryz.prog Tryz.sortedA_ren Fence.wide m :=
  ⟨fun blk off cap ss W hH hblk hsz => callsIn_wide.2 (AnyM.slices_Sort_int Tryz.sortA blk off cap ss W hH hblk hsz),
   fun p cap W => callsIn_wide.2 (AnyM.slices_Sort_int_none Tryz.sortA p cap W)⟩

theorem keys_any (b : Nat) (w : World) :
    Calls Tryz.prog 55 #[.map (some b)] w fun e w' => e = .returned (.func (.func 85) #[] #[.pointer (some ⟨w.heap.size, 0, none⟩)]) ∧ w' = w.alloc (.cells #[.map (some b)] 65) :=
  (callsIn_wide (n := 5)).1 (AnyZI.keys_in Tryz.keysA Fence.wide 5 trivial rfl (some b) w)

set_option maxRecDepth 100000 in
theorem sorted_any {w : World} {b : Nat} {T : Tkn} {V : Int → Option Value} (h : IMap w b 4096 V) (hV : ∀ x, (V x).isSome = (T x).isSome) (H : Nat) (hH : ∀ x, (T x).isSome → 0 ≤ x ∧ x < H) :
    Calls Tryz.prog 54 #[.func (.func 85) #[] #[.pointer (some ⟨w.heap.size, 0, none⟩)]] (w.alloc (.cells #[.map (some b)] 65)) fun e w' => ∃ v, e = .returned v ∧ w'.ownsRow w.heap.size 3 1 v (homeKeys T H).length (I8 (homeKeys T H)) ∧ Below w.heap.size w w' := by
  obtain ⟨D, hown, h2, h3⟩ := h.out
  have hbl := hown.lt
  have hs := hown.size_le
  have hseq : SeqGives Fence.wide 2 Tryz.prog 85 #[.pointer (some ⟨w.heap.size, 0, none⟩)] encZ (fun ss => ss.Perm (intKeys D)) (Maps.size D) (w.alloc (.cells #[.map (some b)] 65)) :=
    AnyZI.keys_gives (ρ := Tryz.keysA_ren) { Tryz.keysA with } Fence.wide _ trivial rfl (by omega) w.heap.size b 4096 D _ (by simp) (by simp) (by
      obtain ⟨es, clock, hb, Ft, hs, hD⟩ := hown
      exact ⟨es, clock, (Below.heap_alloc _ _ b hbl).trans hb, Ft, hs, hD⟩)
  have cS := AnyZI.sorted_in Tryz.sortedA Fence.wide 5 trivial trivial trivial trivial rfl (by omega) (sorts_in _) (enters_of Tryz.func84 (by kernel_rfl) rfl) 85 #[.pointer (some ⟨w.heap.size, 0, none⟩)] trivial (enters_of Tryz.func85 (by kernel_rfl) rfl) _ _ (by simp only [maxLen]; omega) (by omega) _ hseq
  refine ((callsIn_wide (n := 5)).1 cS).mono ?_
  rintro e w' ⟨v, ss, rfl, hS, hrow, hnil, hb⟩
  have hp : ss.Perm (homeKeys T H) := by
    refine hS.trans (List.Perm.symm ?_)
    obtain ⟨es, he, hpw⟩ := hown.tidy iK
    subst he
    refine perm_intKeys hpw (fun p hp => ?_) (homeKeys_nodup T H) (fun x => ?_)
    · have hk : ∀ p ∈ es, ∃ x : Int, p.1 = ky x := hown.intKeyed es rfl
      exact hk p hp
    · rw [homeKeys_mem, h2, hV]
      exact ⟨fun h => h.2, fun h => ⟨hH x h, h⟩⟩
  rw [homeKeys_merge hp] at hrow
  have hl : ss.length = (homeKeys T H).length := hp.length_eq
  rw [hl] at hrow
  refine ⟨v, rfl, owns_mono hrow (by simp), ((Below.refl _ w).alloc (Nat.le_refl _) _).trans (hb.mono (by simp))⟩

end Go.Proofs.YtleoelhhndeheaaGreat
