/-
The plain law of Put and Read: what is put is read again.
-/
import Derived.Test.YtknibnbepmdapaaGe
import Derived.Test.YtknibnbepmdapaaGb
namespace Go.Proofs.Ytknibnbepmdapaa
open Go.RowKit Go.Shelf Go.Proofs.YtknibnbepmdapaaW.PrintWords

theorem or_all : ((List.range 256).all fun c => (List.range 8).all fun j => (decide (0 ≤ bits .or .u8 (c : Int) (maskI j)) && decide (bits .or .u8 (c : Int) (maskI j) < 256)) &&
    (List.range 8).all fun i => (bits .and .u8 (bits .or .u8 (c : Int) (maskI j)) (maskI i) != 0) == (decide (i = j) || (bits .and .u8 (c : Int) (maskI i) != 0))) = true := by kernel_rfl

theorem or_byte (c : Int) (h : 0 ≤ c ∧ c < 256) (j : Nat) (hj : j < 8) : 0 ≤ bits .or .u8 c (maskI j) ∧ bits .or .u8 c (maskI j) < 256 := by
  obtain ⟨n, rfl⟩ := Int.eq_ofNat_of_zero_le h.1
  have h := List.all_eq_true.1 or_all n (List.mem_range.2 (by omega))
  have h := List.all_eq_true.1 h j (List.mem_range.2 hj)
  rw [Bool.and_eq_true, Bool.and_eq_true, decide_eq_true_eq, decide_eq_true_eq] at h
  exact h.1

theorem or_bit (c : Int) (h : 0 ≤ c ∧ c < 256) (i j : Nat) (hi : i < 8) (hj : j < 8) : (bits .and .u8 (bits .or .u8 c (maskI j)) (maskI i) != 0) = (decide (i = j) || (bits .and .u8 c (maskI i) != 0)) := by
  obtain ⟨n, rfl⟩ := Int.eq_ofNat_of_zero_le h.1
  have h := List.all_eq_true.1 or_all n (List.mem_range.2 (by omega))
  have h := List.all_eq_true.1 h j (List.mem_range.2 hj)
  rw [Bool.and_eq_true] at h
  exact eq_of_beq (List.all_eq_true.1 h.2 i (List.mem_range.2 hi))

/-- Is the bit i set? -/
def bitAt (bs : List Int) (i : Nat) : Bool := bits .and .u8 (bs.getD (i / 8) 0) (maskI (i % 8)) != 0

theorem bitAt_zero : ((List.range 8).all fun j => bits .and .u8 0 (maskI j) == 0) = true := by kernel_rfl

theorem orBits_bits (C : List Bool) (nb : Nat) (hnb : C.length ≤ 8 * nb) : ∀ k, k ≤ C.length → Bytes (orBits nb (cameL C k)) ∧ ∀ i, i < 8 * nb → bitAt (orBits nb (cameL C k)) i = (decide (i < k) && C.getD i false)
  | 0, _ => by
    have e : orBits nb (cameL C 0) = List.replicate nb 0 := rfl
    rw [e]
    refine ⟨fun x hx => by rw [List.mem_replicate] at hx; rw [hx.2]; decide, fun i hi => ?_⟩
    have h0 : (List.replicate nb (0 : Int)).getD (i / 8) 0 = 0 := by rw [List.getD_eq_getElem?_getD, List.getElem?_replicate]; split <;> rfl
    unfold bitAt
    rw [h0]
    have := List.all_eq_true.1 bitAt_zero (i % 8) (List.mem_range.2 (by omega))
    rw [eq_of_beq this]
    simp
  | k + 1, hk => by
    obtain ⟨hb, hbit⟩ := orBits_bits C nb hnb k (by omega)
    cases hc : C.getD k false with
    | false =>
      rw [cameL_no C hc]
      refine ⟨hb, fun i hi => ?_⟩
      rw [hbit i hi]
      by_cases e : i = k
      · subst e; rw [hc]; simp
      · rw [show decide (i < k) = decide (i < k + 1) by congr 1; apply propext; omega]
    | true =>
      obtain ⟨hl, e⟩ := cameL_yes C (show k < C.length by omega) hc
      have hol := orBits_length nb (cameL C k)
      have es : orBits nb (cameL C (k + 1)) = (orBits nb (cameL C k)).set (k / 8) (bits .or .u8 ((orBits nb (cameL C k)).getD (k / 8) 0) (maskI (k % 8))) := by
        rw [e, orBits_snoc]; rfl
      rw [es]
      generalize orBits nb (cameL C k) = B at *
      refine ⟨fun x hx => ?_, fun i hi => ?_⟩
      · rcases List.mem_or_eq_of_mem_set hx with h | rfl
        · exact hb x h
        · exact or_byte _ (hb.getD _) _ (by omega)
      · unfold bitAt
        by_cases e8 : k / 8 = i / 8
        · have hg : (B.set (k / 8) (bits .or .u8 (B.getD (k / 8) 0) (maskI (k % 8)))).getD (i / 8) 0 = bits .or .u8 (B.getD (i / 8) 0) (maskI (k % 8)) := by
            rw [e8, List.getD_eq_getElem?_getD, List.getElem?_set_self (by omega)]; rfl
          rw [hg, or_bit _ (hb.getD _) _ _ (by omega) (by omega)]
          have := hbit i hi
          unfold bitAt at this
          rw [this]
          by_cases ei : i = k
          · subst ei; rw [hc]; simp
          · rw [show decide (i % 8 = k % 8) = false by rw [decide_eq_false_iff_not]; omega, Bool.false_or, show decide (i < k) = decide (i < k + 1) by congr 1; apply propext; omega]
        · have hg : (B.set (k / 8) (bits .or .u8 (B.getD (k / 8) 0) (maskI (k % 8)))).getD (i / 8) 0 = B.getD (i / 8) 0 := by
            rw [List.getD_eq_getElem?_getD, List.getElem?_set_ne e8, ← List.getD_eq_getElem?_getD]
          rw [hg]
          have := hbit i hi
          unfold bitAt at this
          rw [this, show decide (i < k) = decide (i < k + 1) by congr 1; apply propext; omega]

/-- The numbers in the list go up. -/
theorem cameL_mem (C : List Bool) : ∀ k, k ≤ C.length → ∀ i, i < k → C.getD i false = true → ∃ (j : Nat) (x : Fin C.length × Fin C.length), (cameL C k)[j]? = some x ∧ x.2.val = i
  | 0, _, i, hi, _ => by omega
  | k + 1, hk, i, hi, hc => by
    by_cases e : i = k
    · subst e
      obtain ⟨hl, e⟩ := cameL_yes C (show i < C.length by omega) hc
      exact ⟨(cameL C i).length, _, by rw [e, List.getElem?_append_right (Nat.le_refl _), Nat.sub_self]; rfl, rfl⟩
    · obtain ⟨j, x, hx, hv⟩ := cameL_mem C k (by omega) i (by omega) hc
      refine ⟨j, x, ?_, hv⟩
      cases hb : C.getD k false with
      | true =>
        obtain ⟨hl, e⟩ := cameL_yes C (show k < C.length by omega) hb
        rw [e, List.getElem?_append_left (List.getElem?_eq_some_iff.1 hx).1]; exact hx
      | false => rw [cameL_no C hb]; exact hx

theorem cameL_up (C : List Bool) : ∀ k (j j' : Nat) (x x' : Fin C.length × Fin C.length), (cameL C k)[j]? = some x → (cameL C k)[j']? = some x' → j < j' → x.2.val < x'.2.val
  | 0, j, j', x, x', h, _, _ => by simp [cameL] at h
  | k + 1, j, j', x, x', h, h', hlt => by
    by_cases hk : k < C.length
    · cases hb : C.getD k false with
      | true =>
        obtain ⟨hl, e⟩ := cameL_yes C hk hb
        rw [e] at h h'
        have hj' := (List.getElem?_eq_some_iff.1 h').1
        rw [List.length_append, List.length_singleton] at hj'
        rw [List.getElem?_append_left (by omega)] at h
        rcases Nat.lt_or_ge j' (cameL C k).length with hj | hj
        · rw [List.getElem?_append_left hj] at h'; exact cameL_up C k j j' x x' h h' hlt
        · rw [List.getElem?_append_right hj, List.getElem?_singleton] at h'
          split at h'
          · cases h'
            exact cameL_lt C k x (List.mem_iff_getElem?.2 ⟨j, h⟩)
          · cases h'
      | false => rw [cameL_no C hb] at h h'; exact cameL_up C k j j' x x' h h' hlt
    · have e : cameL C (k + 1) = cameL C k := by
        show (if h : k < C.length ∧ (cameL C k).length < C.length then _ else _) = _
        rw [dif_neg (by omega)]
      rw [e] at h h'
      exact cameL_up C k j j' x x' h h' hlt

theorem aheadOf_none {N : Nat} (torn : Int) : ∀ (xs : List (Fin N × Fin N)) (a : Int), (∀ x ∈ xs, (x.2.val : Int) ≠ torn) → xs.foldl (fun r x => if (x.2.val : Int) = torn then (x.1.val : Int) else r) a = a
  | [], _, _ => rfl
  | x :: xs, a, h => by
    rw [List.foldl_cons, if_neg (h x List.mem_cons_self)]
    exact aheadOf_none torn xs a fun y hy => h y (List.mem_cons_of_mem _ hy)

theorem aheadOf_minus (C : List Bool) : aheadOf (-1) (cameL C C.length) = -1 := by
  unfold aheadOf
  exact aheadOf_none _ _ _ fun x _ => by omega

theorem aheadOf_at (C : List Bool) {j : Nat} {y : Fin C.length × Fin C.length} (hy : (cameL C C.length)[j]? = some y) : aheadOf (y.2.val : Int) (cameL C C.length) = (j : Int) := by
  have hf := cameL_fst C C.length j y hy
  have hup := cameL_up C C.length
  generalize cameL C C.length = xs at *
  obtain ⟨hlt, he⟩ := List.getElem?_eq_some_iff.1 hy
  have hsplit : xs = xs.take j ++ y :: xs.drop (j + 1) := by rw [← he, List.getElem_cons_drop hlt, List.take_append_drop]
  unfold aheadOf
  rw [hsplit, List.foldl_append, List.foldl_cons, if_pos rfl]
  rw [aheadOf_none _ _ _ fun x hx => ?_, hf]
  obtain ⟨i, hi⟩ := List.mem_iff_getElem?.1 hx
  rw [List.getElem?_drop] at hi
  have := hup j (j + 1 + i) y x hy hi (by omega)
  omega

theorem readBits_self (bs : List Int) (C : List Bool) (h : ∀ i, i < C.length → bitOf bs i = C.getD i false) : readBits bs C.length C.length = C := by
  apply List.ext_getElem
  · simp [readBits]
  · intro i h1 h2
    have := h i h2
    rw [List.getD_eq_getElem?_getD, List.getElem?_eq_getElem h2, Option.getD_some] at this
    simp [readBits, h2, this]

/-- **What is put is read again.** -/
theorem read_put (C : List Bool) (torn at_ : Int) (hmay : mayB C torn at_ = true) (hlen : C.length ≤ 4096) (hah : aheadOf torn (cameL C C.length) ≤ 127) :
    (fatePut C torn at_).2 = 0 ∧ Bytes (fatePut C torn at_).1 ∧ fateReadN (fatePut C torn at_).1 C.length = (C, torn, at_) := by
  obtain ⟨hb, hbit⟩ := orBits_bits C ((C.length + 7) / 8) (by omega) C.length (Nat.le_refl _)
  have hol := orBits_length ((C.length + 7) / 8) (cameL C C.length)
  have hmany : ∀ bs, readBits bs C.length C.length = C → manyOf bs C.length = (cameL C C.length).length := fun bs e => by
    rw [← cameL_many bs C.length (Nat.le_refl _), e]
  have hat := mayB_at hmay
  by_cases ht : torn = -1
  · subst ht
    have ha := aheadOf_minus C
    have hp : fatePut C (-1) at_ = (orBits ((C.length + 7) / 8) (cameL C C.length), 0) := by
      unfold fatePut
      rw [if_neg (by rw [hmay]; simp), if_neg (by omega), ha, if_neg (by decide), if_neg (by decide)]
    rw [hp]
    have h0 : at_ = 0 := by unfold mayB at hmay; rw [if_pos rfl] at hmay; exact eq_of_beq hmay
    refine ⟨rfl, hb, ?_⟩
    generalize orBits ((C.length + 7) / 8) (cameL C C.length) = B at *
    have hr : readBits B C.length C.length = C := readBits_self B C fun i hi => by
      have := hbit i (by omega)
      unfold bitAt at this
      unfold bitOf
      rw [this, hol]
      simp [show i / 8 < (C.length + 7) / 8 by omega, hi]
    unfold fateReadN
    rw [if_pos (.inl (by rw [List.length_drop, hol]; omega)), hr, h0]
  · have hm := hmay
    unfold mayB at hm
    rw [if_neg ht, decide_eq_true_eq] at hm
    obtain ⟨t0, t1, tc, a0, a1⟩ := hm
    obtain ⟨j, y, hy, hv⟩ := cameL_mem C C.length (Nat.le_refl _) torn.toNat (by omega) tc
    have hyt : (y.2.val : Int) = torn := by omega
    have ha := aheadOf_at C hy
    rw [hyt] at ha
    have hp : fatePut C torn at_ = (orBits ((C.length + 7) / 8) (cameL C C.length) ++ [(j : Int), at_ / 256, at_ % 256], 0) := by
      unfold fatePut
      rw [if_neg (by rw [hmay]; simp), if_neg (by omega), if_neg (by omega), if_pos (by omega), ha]
    rw [hp]
    have hj : j ≤ 127 := by omega
    have htn := tornOf_at (cameL C C.length) (cameL_fst C C.length) hy
    have hjl := (List.getElem?_eq_some_iff.1 hy).1
    generalize orBits ((C.length + 7) / 8) (cameL C C.length) = B at *
    refine ⟨rfl, fun x hx => ?_, ?_⟩
    · rcases List.mem_append.1 hx with h | h
      · exact hb x h
      · simp only [List.mem_cons, List.not_mem_nil, or_false] at h
        rcases h with rfl | rfl | rfl <;> omega
    · have hr : readBits (B ++ [(j : Int), at_ / 256, at_ % 256]) C.length C.length = C := readBits_self _ C fun i hi => by
        have h8 : i / 8 < B.length := by omega
        have := hbit i (by omega)
        unfold bitAt at this
        unfold bitOf
        rw [List.getD_eq_getElem?_getD, List.getElem?_append_left h8, ← List.getD_eq_getElem?_getD, this, List.length_append]
        simp [show i / 8 < B.length + 3 by omega, hi]
      have hd : (B ++ [(j : Int), at_ / 256, at_ % 256]).drop ((C.length + 7) / 8) = [(j : Int), at_ / 256, at_ % 256] := by rw [← hol, List.drop_left]
      have hmn := hmany _ hr
      unfold fateReadN
      rw [hd, hr, hmn, if_neg (by
        rintro (h | h | h)
        · simp at h
        · change (127 : Int) < (j : Int) at h; omega
        · omega)]
      show (C, tornOf ((j : Int) % ((cameL C C.length).length : Int)) (cameL C C.length), (at_ / 256 * 256 + at_ % 256) % 257) = _
      rw [Int.emod_eq_of_lt (by omega) (by omega), htn, hyt, show (at_ / 256 * 256 + at_ % 256) % 257 = at_ by omega]
end Go.Proofs.Ytknibnbepmdapaa

/-
What is read of any choices may be, and has choices.
-/
namespace Go.Proofs.Ytknibnbepmdapaa
open Go.RowKit Go.Shelf Go.Proofs.YtknibnbepmdapaaW.PrintWords

theorem cameL_true (C : List Bool) : ∀ k, ∀ x ∈ cameL C k, C.getD x.2.val false = true
  | 0, x, h => by cases h
  | k + 1, x, h => by
    by_cases hk : k < C.length
    · cases hb : C.getD k false with
      | true =>
        obtain ⟨hl, e⟩ := cameL_yes C hk hb
        rw [e] at h
        rcases List.mem_append.1 h with h | h
        · exact cameL_true C k x h
        · rw [List.mem_singleton] at h; subst h; exact hb
      | false => rw [cameL_no C hb] at h; exact cameL_true C k x h
    · have e : cameL C (k + 1) = cameL C k := by
        show (if h : k < C.length ∧ (cameL C k).length < C.length then _ else _) = _
        rw [dif_neg (by omega)]
      rw [e] at h
      exact cameL_true C k x h

/-- How many came ahead. -/
theorem aheadOf_count (C : List Bool) {i : Nat} (hi : i < C.length) (hc : C.getD i false = true) : aheadOf (i : Int) (cameL C C.length) = ((cameL C i).length : Int) := by
  obtain ⟨hl, e⟩ := cameL_yes C hi hc
  have hp := cameL_prefix C (show i + 1 ≤ C.length by omega)
  rw [e] at hp
  have hg : (cameL C C.length)[(cameL C i).length]? = some (⟨(cameL C i).length, hl⟩, ⟨i, hi⟩) := by
    obtain ⟨t, ht⟩ := hp
    rw [← ht, List.append_assoc, List.getElem?_append_right (Nat.le_refl _), Nat.sub_self]
    rfl
  exact aheadOf_at C hg

theorem fateReadN_length (cs : List Int) (N : Nat) : (fateReadN cs N).1.length = N := by
  unfold fateReadN
  split <;> exact readBits_length cs N N

theorem read_may (cs : List Int) (h : Bytes cs) (N : Nat) : mayB (fateReadN cs N).1 (fateReadN cs N).2.1 (fateReadN cs N).2.2 = true ∧ aheadOf (fateReadN cs N).2.1 (cameL (fateReadN cs N).1 (fateReadN cs N).1.length) ≤ 127 := by
  unfold fateReadN
  rw [drop_getD, drop_getD, drop_getD]
  by_cases hc : (cs.drop ((N + 7) / 8)).length < 3 ∨ 127 < cs.getD ((N + 7) / 8 + 0) 0 ∨ manyOf cs N = 0
  · rw [if_pos hc]
    exact ⟨rfl, by rw [aheadOf_minus]; decide⟩
  · rw [if_neg hc]
    have e : cameL (readBits cs N N) (readBits cs N N).length = cameL (readBits cs N N) N := congrArg (cameL (readBits cs N N)) (readBits_length cs N N)
    have hr0 := h.getD ((N + 7) / 8 + 0)
    have hm0 : (0 : Int) < manyOf cs N := by omega
    obtain ⟨t, ht⟩ : ∃ t : Nat, cs.getD ((N + 7) / 8 + 0) 0 % (manyOf cs N : Int) = (t : Int) := Int.eq_ofNat_of_zero_le (Int.emod_nonneg _ (by omega))
    have htl : t < manyOf cs N := by have := Int.emod_lt_of_pos (cs.getD ((N + 7) / 8 + 0) 0) hm0; omega
    have ht127 : t ≤ 127 := by
      obtain ⟨a, ha⟩ := Int.eq_ofNat_of_zero_le hr0.1
      rw [ha] at ht
      have h1 : a % manyOf cs N = t := by exact_mod_cast ht
      have := Nat.mod_le a (manyOf cs N)
      omega
    have hlen : t < (cameL (readBits cs N N) (readBits cs N N).length).length := by rw [e, cameL_many cs N (Nat.le_refl _)]; exact htl
    have hy := List.getElem?_eq_getElem hlen
    have htn := tornOf_at _ (cameL_fst _ _) hy
    have hah := aheadOf_at _ hy
    have htr := cameL_true _ _ _ (List.getElem_mem hlen)
    rw [ht]
    show mayB (readBits cs N N) (tornOf (t : Int) _) _ = true ∧ aheadOf (tornOf (t : Int) _) _ ≤ 127
    rw [htn]
    refine ⟨?_, by rw [hah]; omega⟩
    unfold mayB
    have hx := (cameL (readBits cs N N) (readBits cs N N).length)[t].2.isLt
    rw [if_neg (by omega), decide_eq_true_eq]
    refine ⟨by omega, by omega, by rw [Int.toNat_natCast]; exact htr, Int.emod_nonneg _ (by decide), Int.le_of_lt_add_one (Int.emod_lt_of_pos _ (by decide))⟩
end Go.Proofs.Ytknibnbepmdapaa
