/-
What is read of any choices may be, and has choices.
-/
import Derived.Test.YtknibnbepmdapaaHa
namespace Go.Proofs.Ytknibnbepmdapaa
open Go.RowKit Go.Shelf Go.Proofs.YtknibnbepmdapaaW.PrintWords

theorem cameL_true (C : List Bool) : ∀ k, ∀ x ∈ cameL C k, C.getD x.2.val false = true
  | 0, x, h => by cases h
  | k + 1, x, h => by
    by_cases hk : k < C.length
    · cases hb : C.getD k false with
      | true =>
        obtain ⟨hl, e⟩ := cameL_yes C hk hb
        rw [e] at h
        rcases List.mem_append.1 h with h | h
        · exact cameL_true C k x h
        · rw [List.mem_singleton] at h; subst h; exact hb
      | false => rw [cameL_no C hb] at h; exact cameL_true C k x h
    · have e : cameL C (k + 1) = cameL C k := by
        show (if h : k < C.length ∧ (cameL C k).length < C.length then _ else _) = _
        rw [dif_neg (by omega)]
      rw [e] at h
      exact cameL_true C k x h

/-- How many came ahead. -/
theorem aheadOf_count (C : List Bool) {i : Nat} (hi : i < C.length) (hc : C.getD i false = true) : aheadOf (i : Int) (cameL C C.length) = ((cameL C i).length : Int) := by
  obtain ⟨hl, e⟩ := cameL_yes C hi hc
  have hp := cameL_prefix C (show i + 1 ≤ C.length by omega)
  rw [e] at hp
  have hg : (cameL C C.length)[(cameL C i).length]? = some (⟨(cameL C i).length, hl⟩, ⟨i, hi⟩) := by
    obtain ⟨t, ht⟩ := hp
    rw [← ht, List.append_assoc, List.getElem?_append_right (Nat.le_refl _), Nat.sub_self]
    rfl
  exact aheadOf_at C hg

theorem fateReadN_length (cs : List Int) (N : Nat) : (fateReadN cs N).1.length = N := by
  unfold fateReadN
  split <;> exact readBits_length cs N N

theorem read_may (cs : List Int) (h : Bytes cs) (N : Nat) : mayB (fateReadN cs N).1 (fateReadN cs N).2.1 (fateReadN cs N).2.2 = true ∧ aheadOf (fateReadN cs N).2.1 (cameL (fateReadN cs N).1 (fateReadN cs N).1.length) ≤ 127 := by
  unfold fateReadN
  rw [drop_getD, drop_getD, drop_getD]
  by_cases hc : (cs.drop ((N + 7) / 8)).length < 3 ∨ 127 < cs.getD ((N + 7) / 8 + 0) 0 ∨ manyOf cs N = 0
  · rw [if_pos hc]
    exact ⟨rfl, by rw [aheadOf_minus]; decide⟩
  · rw [if_neg hc]
    have e : cameL (readBits cs N N) (readBits cs N N).length = cameL (readBits cs N N) N := congrArg (cameL (readBits cs N N)) (readBits_length cs N N)
    have hr0 := h.getD ((N + 7) / 8 + 0)
    have hm0 : (0 : Int) < manyOf cs N := by omega
    obtain ⟨t, ht⟩ : ∃ t : Nat, cs.getD ((N + 7) / 8 + 0) 0 % (manyOf cs N : Int) = (t : Int) := Int.eq_ofNat_of_zero_le (Int.emod_nonneg _ (by omega))
    have htl : t < manyOf cs N := by have := Int.emod_lt_of_pos (cs.getD ((N + 7) / 8 + 0) 0) hm0; omega
    have ht127 : t ≤ 127 := by
      obtain ⟨a, ha⟩ := Int.eq_ofNat_of_zero_le hr0.1
      rw [ha] at ht
      have h1 : a % manyOf cs N = t := by exact_mod_cast ht
      have := Nat.mod_le a (manyOf cs N)
      omega
    have hlen : t < (cameL (readBits cs N N) (readBits cs N N).length).length := by rw [e, cameL_many cs N (Nat.le_refl _)]; exact htl
    have hy := List.getElem?_eq_getElem hlen
    have htn := tornOf_at _ (cameL_fst _ _) hy
    have hah := aheadOf_at _ hy
    have htr := cameL_true _ _ _ (List.getElem_mem hlen)
    rw [ht]
    show mayB (readBits cs N N) (tornOf (t : Int) _) _ = true ∧ aheadOf (tornOf (t : Int) _) _ ≤ 127
    rw [htn]
    refine ⟨?_, by rw [hah]; omega⟩
    unfold mayB
    have hx := (cameL (readBits cs N N) (readBits cs N N).length)[t].2.isLt
    rw [if_neg (by omega), decide_eq_true_eq]
    refine ⟨by omega, by omega, by rw [Int.toNat_natCast]; exact htr, Int.emod_nonneg _ (by decide), Int.le_of_lt_add_one (Int.emod_lt_of_pos _ (by decide))⟩
end Go.Proofs.Ytknibnbepmdapaa
