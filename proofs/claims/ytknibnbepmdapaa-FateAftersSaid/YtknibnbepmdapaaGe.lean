/-
The plain law of Read: the program's and the document's are one.
-/
import Derived.Test.YtknibnbepmdapaaGd
namespace Go.Proofs.Ytknibnbepmdapaa
open Go.RowKit Go.Shelf Go.Proofs.YtknibnbepmdapaaW.PrintWords

theorem bit_all : ((List.range 256).all fun c => (List.range 8).all fun j => (bits .and .u8 (c : Int) (maskI j) != 0) == ((c : Int) / maskI j % 2 == 1)) = true := by kernel_rfl

theorem bit_eq (c : Int) (h0 : 0 ≤ c) (h1 : c < 256) (j : Nat) (hj : j < 8) : (bits .and .u8 c (maskI j) != 0) = (c / maskI j % 2 == 1) := by
  obtain ⟨n, rfl⟩ := Int.eq_ofNat_of_zero_le h0
  have h := List.all_eq_true.1 bit_all n (List.mem_range.2 (by omega))
  have h := List.all_eq_true.1 h j (List.mem_range.2 hj)
  exact eq_of_beq h

def Bytes (cs : List Int) : Prop := ∀ x ∈ cs, 0 ≤ x ∧ x < 256

theorem Bytes.getD {cs : List Int} (h : Bytes cs) (i : Nat) : 0 ≤ cs.getD i 0 ∧ cs.getD i 0 < 256 := by
  rw [List.getD_eq_getElem?_getD]
  by_cases hi : i < cs.length
  · rw [List.getElem?_eq_getElem hi]; exact h _ (List.getElem_mem _)
  · rw [List.getElem?_eq_none (by omega)]; exact ⟨by decide, by decide⟩

theorem bitR_eq {cs : List Int} (h : Bytes cs) (i : Nat) : bitR cs i = bitOf cs i := by
  unfold bitR bitOf
  rw [bit_eq _ (h.getD _).1 (h.getD _).2 _ (by omega)]

theorem bitsR_eq {cs : List Int} (h : Bytes cs) (N : Nat) : bitsR cs N = readBits cs N N := by
  apply List.ext_getElem
  · simp [bitsR, readBits]
  · intro i h1 h2
    simp [bitsR] at h1
    simp [bitsR, readBits, bitR_eq h, h1]

theorem readBits_getD (cs : List Int) {N i : Nat} (hi : i < N) : (readBits cs N N).getD i false = bitOf cs i := by
  simp [readBits, hi]

theorem cameL_many (cs : List Int) {N : Nat} : ∀ k, k ≤ N → (cameL (readBits cs N N) k).length = manyOf cs k
  | 0, _ => rfl
  | k + 1, hk => by
    have ih := cameL_many cs (N := N) k (by omega)
    have hkl : k < (readBits cs N N).length := by rw [readBits_length]; omega
    rw [manyOf_succ, ← readBits_getD cs (N := N) (i := k) (by omega)]
    cases hb : (readBits cs N N).getD k false with
    | true =>
      obtain ⟨hl, e⟩ := cameL_yes (readBits cs N N) hkl hb
      rw [e, List.length_append, List.length_singleton]
      simp [ih]
    | false => rw [cameL_no _ hb, ih]; simp

/-- The elements are numbered. -/
theorem cameL_fst (l : List Bool) : ∀ (k j : Nat) (x : Fin l.length × Fin l.length), (cameL l k)[j]? = some x → x.1.val = j
  | 0, j, x, h => by simp [cameL] at h
  | k + 1, j, x, h => by
    by_cases hk : k < l.length
    · cases hb : l.getD k false with
      | true =>
        obtain ⟨hl, e⟩ := cameL_yes l hk hb
        rw [e] at h
        rcases Nat.lt_or_ge j (cameL l k).length with hj | hj
        · rw [List.getElem?_append_left hj] at h; exact cameL_fst l k j x h
        · rw [List.getElem?_append_right hj] at h
          rw [List.getElem?_singleton] at h
          split at h
          · cases h; simp; omega
          · cases h
      | false => rw [cameL_no l hb] at h; exact cameL_fst l k j x h
    · unfold cameL at h
      rw [dif_neg (by omega)] at h
      exact cameL_fst l k j x h

theorem tornOf_far {N : Nat} (t : Int) : ∀ (xs : List (Fin N × Fin N)) (a : Int), (∀ x ∈ xs, (x.1.val : Int) ≠ t) → xs.foldl (fun r x => if (x.1.val : Int) = t then (x.2.val : Int) else r) a = a
  | [], _, _ => rfl
  | x :: xs, a, h => by
    rw [List.foldl_cons, if_neg (h x List.mem_cons_self)]
    exact tornOf_far t xs a fun y hy => h y (List.mem_cons_of_mem _ hy)

theorem tornOf_at {N : Nat} (xs : List (Fin N × Fin N)) (hx : ∀ (j : Nat) (x : Fin N × Fin N), xs[j]? = some x → x.1.val = j) {t : Nat} {y : Fin N × Fin N} (hy : xs[t]? = some y) : tornOf (t : Int) xs = (y.2.val : Int) := by
  obtain ⟨hlt, rfl⟩ := List.getElem?_eq_some_iff.1 hy
  have hsplit : xs = xs.take t ++ xs[t] :: xs.drop (t + 1) := by rw [List.getElem_cons_drop hlt, List.take_append_drop]
  have hv := hx t _ hy
  generalize xs[t] = y at hsplit hv
  have h1 : ((y.1.val : Nat) : Int) = (t : Int) := by rw [hv]
  unfold tornOf
  rw [hsplit, List.foldl_append, List.foldl_cons, if_pos h1]
  refine tornOf_far _ _ _ fun x hx' => ?_
  obtain ⟨j, hj⟩ := List.mem_iff_getElem?.1 hx'
  rw [List.getElem?_drop] at hj
  have := hx _ _ hj
  omega

theorem drop_getD (cs : List Int) (a i : Nat) : (cs.drop a).getD i 0 = cs.getD (a + i) 0 := by
  rw [List.getD_eq_getElem?_getD, List.getD_eq_getElem?_getD, List.getElem?_drop]

theorem refReadN_eq {cs : List Int} (h : Bytes cs) (N : Nat) : refReadN cs N = fateReadN cs N := by
  unfold refReadN fateReadN
  rw [bitsR_eq h]
  simp only [drop_getD, List.length_drop, Nat.add_zero]
  have hm : (cameN (readBits cs N N) N).length = manyOf cs N := by unfold cameN; rw [List.length_map, cameL_many cs N (Nat.le_refl _)]
  have e : cameL (readBits cs N N) (readBits cs N N).length = cameL (readBits cs N N) N := congrArg (cameL (readBits cs N N)) (readBits_length cs N N)
  rw [hm, e]
  by_cases hc : cs.length - (N + 7) / 8 < 3 ∨ 127 < cs.getD ((N + 7) / 8) 0 ∨ manyOf cs N = 0
  · rw [if_pos hc, if_neg]
    rintro ⟨h1, h2, h3⟩
    rcases hc with hc | hc | hc <;> omega
  · rw [if_neg hc, if_pos ⟨by omega, by omega, by omega⟩]
    have hmp : (0 : Int) < manyOf cs N := by omega
    obtain ⟨t, ht⟩ : ∃ t : Nat, cs.getD ((N + 7) / 8) 0 % (manyOf cs N : Int) = (t : Int) := Int.eq_ofNat_of_zero_le (Int.emod_nonneg _ (by omega))
    have htl : t < manyOf cs N := by have := Int.emod_lt_of_pos (cs.getD ((N + 7) / 8) 0) hmp; omega
    rw [ht, Int.toNat_natCast]
    have hlen : t < (cameL (readBits cs N N) N).length := by rw [cameL_many cs N (Nat.le_refl _)]; exact htl
    rw [tornOf_at (cameL (readBits cs N N) N) (cameL_fst _ N) (List.getElem?_eq_getElem hlen)]
    have : (cameN (readBits cs N N) N).getD t 0 = (((cameL (readBits cs N N) N)[t].2.val : Nat) : Int) := by
      unfold cameN
      rw [List.getD_eq_getElem?_getD, List.getElem?_map, List.getElem?_eq_getElem hlen]
      rfl
    rw [this, Int.mul_comm 256]

theorem refRead_eq {cs : List Int} (h : Bytes cs) (n : Int) : refRead cs n = fateRead cs n := by
  unfold refRead fateRead
  rw [show (max 0 (min n 4096)) = (min (max n 0) 4096) by omega, refReadN_eq h]
end Go.Proofs.Ytknibnbepmdapaa
