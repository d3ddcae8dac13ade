/-
The plain law of FateEnds.
-/
import Derived.Test.YtknibnbepmdapaaPFatex7
import Derived.Test.YtknibnbepmdapaaKb
namespace Go.Proofs.Ytknibnbepmdapaa
open Go.RowKit Go.Shelf Go.Proofs.YtknibnbepmdapaaW.PrintWords Go.Proofs.YtknibnbepmdapaaW.PrintMore Go.Proofs.Ytknibnbepmdapaa.PFate

theorem wholeP_l0 (N : Nat) (t a : Int) (hN : N ≤ 4096) : ∀ d j, j + d = N → ∃ k, fate_Whole.l0 k (N : Int) (j : Int) (List.replicate j true ++ List.replicate d false) t a = some (List.replicate N true, t, a)
  | 0, j, hj => ⟨1, by
    obtain rfl : j = N := by omega
    rw [fate_Whole.l0]
    rw [if_neg (by omega), List.replicate_zero, List.append_nil]⟩
  | d + 1, j, hj => by
    obtain ⟨k, hk⟩ := wholeP_l0 N t a hN d (j + 1) (by omega)
    refine ⟨k + 1, ?_⟩
    rw [fate_Whole.l0]
    rw [if_pos (by omega), if_pos (by omega), if_pos (by rw [List.length_append, List.length_replicate, List.length_replicate]; omega), w64_succ _ (by omega), Int.toNat_natCast, rep_true]
    exact hk

theorem wholeP (N : Nat) (hN : N ≤ 4096) : ∃ k, fate_Whole.f k (N : Int) = some (List.replicate N true, -1, 0) := by
  obtain ⟨k, hk⟩ := wholeP_l0 N (-1) 0 hN N 0 (by omega)
  refine ⟨k, ?_⟩
  unfold fate_Whole.f fate_limited.f
  rw [Option.bind_some, show mn (mx (N : Int) 0) 4096 = (N : Int) by unfold mn mx; split <;> split <;> omega, if_pos (by omega), Int.toNat_natCast, if_pos (by omega), Option.bind_some, List.length_replicate]
  exact hk

/-- What was written last into the sector k. -/
def lastL (W : List S43) (k : Nat) (s : ByteArray) : ByteArray := W.foldl (fun s x => if x.f0 = (k : Int) ∧ x.f1.size = 256 then x.f1 else s) s

theorem lastL_step (W : List S43) (k : Nat) (s : ByteArray) {i : Nat} (h : i < W.length) : lastL (W.take (i + 1)) k s = if (rd_T43 W i).f0 = k ∧ (rd_T43 W i).f1.size = 256 then (rd_T43 W i).f1 else lastL (W.take i) k s := by
  have hrd : rd_T43 W (i : Int) = W.getD i z43 := by unfold rd_T43; rw [Int.toNat_natCast]
  rw [hrd, take_step W z43 h]
  unfold lastL
  rw [List.foldl_append]
  rfl

theorem stands_last (S : List ByteArray) (W : List S43) (hS : All256 S) (k : Nat) (hk : k < S.length) : ∀ i, i ≤ W.length → stands S W (List.replicate W.length true) (-1) 0 k i = lastL (W.take i) k (S.getD k ByteArray.empty)
  | 0, _ => rfl
  | i + 1, hi => by
    have ih := stands_last S W hS k hk i (by omega)
    have hc : (List.replicate W.length true).getD i false = true := by rw [List.getD_eq_getElem?_getD, List.getElem?_replicate, if_pos (by omega)]; rfl
    rw [stands_yes S W _ (-1) 0 (by rw [List.length_replicate]) k i hk (by omega) hc, lastL_step W k _ (by omega), ih]
    by_cases h : (rd_T43 W i).f0 = k ∧ (rd_T43 W i).f1.size = 256
    · rw [if_pos h, if_pos h, layAt_whole _ _ _ _ _ (by omega) h.2]
      rw [← ih]
      exact stands_size S W _ (-1) 0 hS k i hk
    · rw [if_neg h, if_neg h]

/-- What all writes bring. -/
def allCome (S : List ByteArray) (W : List S43) : List ByteArray := fateAfter S W (List.replicate W.length true) (-1) 0

theorem allCome_length (S : List ByteArray) (W : List S43) : (allCome S W).length = S.length := afterFold_length W _ _ _ S
theorem allCome_all (S : List ByteArray) (W : List S43) (hS : All256 S) : All256 (allCome S W) := afterFold_all W _ _ _ S hS
theorem allCome_at (S : List ByteArray) (W : List S43) (hS : All256 S) (k : Nat) (hk : k < S.length) : (allCome S W).getD k ByteArray.empty = lastL W k (S.getD k ByteArray.empty) := by
  have h := stands_last S W hS k hk W.length (Nat.le_refl _)
  rw [List.take_of_length_le (Nat.le_refl _)] at h
  rw [← h]
  unfold allCome stands fateAfter
  rw [show cameL (List.replicate W.length true) (List.replicate W.length true).length = cameL (List.replicate W.length true) W.length from congrArg (cameL (List.replicate W.length true)) (List.length_replicate)]

theorem half_at (S : List ByteArray) (W : List S43) (hS : All256 S) (m k : Nat) (hk : k < S.length) : (allCome (allCome S (W.take m)) (W.drop m)).getD k ByteArray.empty = lastL W k (S.getD k ByteArray.empty) := by
  rw [allCome_at _ _ (allCome_all S _ hS) k (by rw [allCome_length]; exact hk), allCome_at S _ hS k hk]
  unfold lastL
  rw [← List.foldl_append, List.take_append_drop]

theorem cameL_none (C : List Bool) (h : ∀ i, C.getD i false = false) : ∀ k, cameL C k = []
  | 0 => rfl
  | k + 1 => by rw [cameL_no C (h k), cameL_none C h k]

theorem none_come (S : List ByteArray) (W : List S43) (n : Nat) (t a : Int) : fateAfter S W (readBits [] n n) t a = S := by
  unfold fateAfter
  rw [cameL_none _ (fun i => ?_)]
  · rfl
  · by_cases h : i < n
    · rw [readBits_getD [] h]; rfl
    · rw [List.getD_eq_getElem?_getD, List.getElem?_eq_none (by rw [readBits_length]; omega)]; rfl

section
variable (S : List ByteArray) (W : List S43) (hS : All256 S) (hW : W.length ≤ 20) (hS8 : S.length ≤ 8) (m : Nat)
include hS hW hS8

theorem ends_l1 (k : Nat) (hk : k < S.length) (hnext : ∃ q, foyerlaw04_FateEnds.l0 q S W (allCome S W) S (allCome (allCome S (W.take m)) (W.drop m)) ((k + 1 : Nat) : Int) = some true) :
    ∀ d i, i + d = W.length → ∃ q, foyerlaw04_FateEnds.l1 q S W (allCome S W) S (allCome (allCome S (W.take m)) (W.drop m)) (k : Int) (lastL (W.take i) k (S.getD k ByteArray.empty)) (i : Int) = some true
  | 0, i, hi => by
    obtain ⟨q, hq⟩ := hnext
    refine ⟨q + 1, ?_⟩
    obtain rfl : i = W.length := by omega
    have h1 : rdOf ByteArray.empty (allCome S W) (k : Int) = lastL W k (S.getD k ByteArray.empty) := by unfold rdOf; rw [Int.toNat_natCast]; exact allCome_at S W hS k hk
    have h2 : rdOf ByteArray.empty (allCome (allCome S (W.take m)) (W.drop m)) (k : Int) = lastL W k (S.getD k ByteArray.empty) := by unfold rdOf; rw [Int.toNat_natCast]; exact half_at S W hS m k hk
    have l1 := allCome_length S W
    have l2 : (allCome (allCome S (W.take m)) (W.drop m)).length = S.length := by rw [allCome_length, allCome_length]
    rw [foyerlaw04_FateEnds.l1]
    rw [if_neg (by omega), if_pos (by omega), if_pos (by omega), List.take_of_length_le (Nat.le_refl _), h1, if_pos rfl, if_pos (by omega), h2, if_pos rfl, if_pos (by omega), if_pos (by omega), if_pos rfl, w64_succ _ (by omega)]
    exact hq
  | d + 1, i, hi => by
    obtain ⟨q, hq⟩ := ends_l1 k hk hnext d (i + 1) (by omega)
    refine ⟨q + 1, ?_⟩
    rw [lastL_step W k _ (by omega)] at hq
    rw [foyerlaw04_FateEnds.l1]
    rw [if_pos (by omega), if_pos (by omega), w64_succ _ (by omega)]
    by_cases h0 : (rd_T43 W i).f0 = k
    · rw [if_pos h0]
      by_cases h1 : (rd_T43 W i).f1.size = 256
      · rw [if_pos ⟨h0, h1⟩] at hq
        rw [if_pos (by omega)]
        exact hq
      · rw [if_neg (fun h => h1 h.2)] at hq
        rw [if_neg (by omega)]
        exact hq
    · rw [if_neg (fun h => h0 h.1)] at hq
      rw [if_neg h0]
      exact hq

theorem ends_l0 : ∀ d k, k + d = S.length → ∃ q, foyerlaw04_FateEnds.l0 q S W (allCome S W) S (allCome (allCome S (W.take m)) (W.drop m)) (k : Int) = some true
  | 0, k, hk => ⟨1, by
    rw [foyerlaw04_FateEnds.l0]
    rw [if_neg (by omega)]⟩
  | d + 1, k, hk => by
    have hn := ends_l0 d (k + 1) (by omega)
    obtain ⟨q, hq⟩ := ends_l1 S W hS hW hS8 m k (by omega) hn W.length 0 (by omega)
    refine ⟨q + 1, ?_⟩
    rw [foyerlaw04_FateEnds.l0]
    rw [if_pos (by omega), if_pos (by omega)]
    have he : rdOf ByteArray.empty S (k : Int) = S.getD k ByteArray.empty := by unfold rdOf; rw [Int.toNat_natCast]
    rw [he]
    exact hq
end

theorem fateEnds_true (l0 : List Int) (l1 : List S88) (a2 : Int) (h1 : ∀ x ∈ l1, Lay8 x) (h2 : 0 ≤ a2 ∧ a2 < 256) : ∃ k, foyerlaw04_FateEnds.f k l0 l1 a2 = some true := by
  obtain ⟨k0, e0⟩ := sectorsP l0
  obtain ⟨k1, e1⟩ := writesP l1 h1
  have hS := secsOf_all l0
  have hS8 := secsOf_length l0
  have hW := writesOf_length l1
  generalize secsOf l0 = S at *
  generalize writesOf l1 = W at *
  have w0 : wrap64 ((W.length : Int) + 1) = (W.length : Int) + 1 := by unfold wrap64; omega
  have w2 : wrap64 a2 = a2 := by unfold wrap64; omega
  obtain ⟨m, hm⟩ : ∃ m : Nat, Int.tmod a2 ((W.length : Int) + 1) = (m : Int) := by
    rw [Int.tmod_eq_emod_of_nonneg h2.1]
    exact Int.eq_ofNat_of_zero_le (Int.emod_nonneg _ (by omega))
  have hml : m ≤ W.length := by
    have := Int.emod_lt_of_pos a2 (show (0 : Int) < (W.length : Int) + 1 by omega)
    rw [← Int.tmod_eq_emod_of_nonneg h2.1, hm] at this
    omega
  obtain ⟨k2, e2⟩ := wholeP W.length (by omega)
  obtain ⟨k3, e3⟩ := wholeP m (by omega)
  obtain ⟨k4, e4⟩ := wholeP (W.length - m) (by omega)
  obtain ⟨k5, e5⟩ := ends_l0 S W hS hW hS8 m S.length 0 (by omega)
  have e5' : foyerlaw04_FateEnds.j0 (k5 + 1) S W (allCome S W) S (allCome (allCome S (W.take m)) (W.drop m)) false = some true := by
    rw [foyerlaw04_FateEnds.j0]
    rw [if_neg (by simp)]
    exact e5
  have hr : fate_Read.f [] (W.length : Int) = some (readBits [] W.length W.length, -1, 0) := by
    unfold fate_Read.f
    rw [if_pos ((bytesB_iff _).2 (fun x hx => by cases hx))]
    unfold fateRead
    rw [show (min (max (W.length : Int) 0) 4096).toNat = W.length by omega]
    unfold fateReadN
    rw [if_pos (.inl (by rw [List.drop_nil]; decide))]
  obtain ⟨K, hK⟩ : ∃ K, K = max (max (max k0 k1) (max k2 k3)) (max k4 (k5 + 1)) := ⟨_, rfl⟩
  refine ⟨K, ?_⟩
  have f0 := upTo (fun k => foyerlaw04_sectors.f k l0) (foyerlaw04_sectors.mono l0) (show k0 ≤ K by omega) e0
  have f1 := upTo (fun k => foyerlaw04_writes.f k l1) (foyerlaw04_writes.mono l1) (show k1 ≤ K by omega) e1
  have f2 := upTo (fun k => fate_Whole.f k (W.length : Int)) (fate_Whole.mono _) (show k2 ≤ K by omega) e2
  have f3 := upTo (fun k => fate_Whole.f k (m : Int)) (fate_Whole.mono _) (show k3 ≤ K by omega) e3
  have f4 := upTo (fun k => fate_Whole.f k ((W.length - m : Nat) : Int)) (fate_Whole.mono _) (show k4 ≤ K by omega) e4
  have f5 := upTo (fun k => foyerlaw04_FateEnds.j0 k S W (allCome S W) S (allCome (allCome S (W.take m)) (W.drop m)) false) (fun k => (foyerlaw04_FateEnds.mono_l k).1 _ _ _ _ _ _) (show k5 + 1 ≤ K by omega) e5'
  have af : ∀ (S' : List ByteArray) (W' : List S43) (C : List Bool) (t a : Int), All256 S' → S'.length ≤ 8 → fate_After.f S' W' C t a = some (fateAfter S' W' C t a) := fun S' W' C t a h h8 => by
    unfold fate_After.f
    rw [if_pos ⟨(all256B_iff _).2 h, by omega⟩]
  have c1 : fateAfter S W (List.replicate W.length true) (-1) 0 = allCome S W := rfl
  have c2 : fateAfter S (W.take m) (List.replicate m true) (-1) 0 = allCome S (W.take m) := by unfold allCome; rw [List.length_take, show min m W.length = m by omega]
  have c3 : fateAfter (allCome S (W.take m)) (W.drop m) (List.replicate (W.length - m) true) (-1) 0 = allCome (allCome S (W.take m)) (W.drop m) := by
    show _ = fateAfter (allCome S (W.take m)) (W.drop m) (List.replicate (W.drop m).length true) (-1) 0
    rw [List.length_drop]
  have w3 : wrap64 ((W.length : Int) - (m : Int)) = ((W.length - m : Nat) : Int) := by unfold wrap64; omega
  have l1 := allCome_length S W
  have l2 : (allCome (allCome S (W.take m)) (W.drop m)).length = S.length := by rw [allCome_length, allCome_length]
  unfold foyerlaw04_FateEnds.f foyerlaw04_works.f
  rw [Option.bind_some, if_pos rfl, f0, Option.bind_some, f1, Option.bind_some, f2, Option.bind_some, af _ _ _ _ _ hS hS8, Option.bind_some, hr, Option.bind_some, af _ _ _ _ _ hS hS8, Option.bind_some, w0, w2, hm,
    if_neg (by omega), if_pos (by omega), if_pos (by omega), f3, Option.bind_some, Int.toNat_natCast, af _ _ _ _ _ hS hS8, Option.bind_some, w3, f4, Option.bind_some]
  dsimp only
  rw [c1, c2, none_come, af _ _ _ _ _ (allCome_all S _ hS) (by rw [allCome_length]; exact hS8), Option.bind_some, c3, if_pos (by omega), if_pos rfl, show (((allCome (allCome S (W.take m)) (W.drop m)).length : Int) != (S.length : Int)) = false by rw [l2]; simp]
  exact f5
end Go.Proofs.Ytknibnbepmdapaa
