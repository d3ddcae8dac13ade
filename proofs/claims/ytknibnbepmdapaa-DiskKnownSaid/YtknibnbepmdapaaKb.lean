/-
The plain law of FateEach.
-/
import Derived.Test.YtknibnbepmdapaaPFatex4
import Derived.Test.YtknibnbepmdapaaKa
import Derived.Test.YtknibnbepmdapaaHb
namespace Go.Proofs.Ytknibnbepmdapaa
open Go.RowKit Go.Shelf Go.Proofs.YtknibnbepmdapaaW.PrintWords Go.Proofs.YtknibnbepmdapaaW.PrintMore Go.Proofs.Ytknibnbepmdapaa.PFate

theorem layAt_torn (t a : Int) (i : Int) (data old : ByteArray) (hi : i = t) (ha : 0 ≤ a ∧ a ≤ 256) (hd : data.size = 256) : layAt t a i data old = data.extract 0 a.toNat ++ old.extract a.toNat old.size := by
  unfold layAt
  rw [if_pos hi, show (min (max a 0) 256).toNat = a.toNat by omega, overlay_eq, extract_size, hd, show min a.toNat 256 = a.toNat by omega]

theorem layAt_whole (t a : Int) (i : Int) (data old : ByteArray) (hi : ¬ i = t) (hd : data.size = 256) (ho : old.size = 256) : layAt t a i data old = data := by
  unfold layAt
  rw [if_neg hi, overlay_whole _ _ (by omega)]

theorem getD_set_ne (l : List ByteArray) {i k : Nat} (h : i ≠ k) (v : ByteArray) : (l.set i v).getD k ByteArray.empty = l.getD k ByteArray.empty := by
  rw [List.getD_eq_getElem?_getD, List.getElem?_set_ne h, ← List.getD_eq_getElem?_getD]
theorem getD_set_self (l : List ByteArray) {k : Nat} (h : k < l.length) (v : ByteArray) : (l.set k v).getD k ByteArray.empty = v := by
  rw [List.getD_eq_getElem?_getD, List.getElem?_set_self h]; rfl

/-- What stands in the sector k behind the writes ahead of i. -/
def stands (S : List ByteArray) (W : List S43) (C : List Bool) (t a : Int) (k i : Nat) : ByteArray := (afterFold W t a S (cameL C i)).getD k ByteArray.empty

section
variable (S : List ByteArray) (W : List S43) (C : List Bool) (t a : Int)

theorem stands_size (hS : All256 S) (k i : Nat) (hk : k < S.length) : (stands S W C t a k i).size = 256 := by
  unfold stands
  have hl := afterFold_length W t a (cameL C i) S
  rw [List.getD_eq_getElem?_getD, List.getElem?_eq_getElem (by omega), Option.getD_some]
  exact afterFold_all W t a (cameL C i) S hS _ (List.getElem_mem _)

theorem stands_no (k i : Nat) (hc : C.getD i false = false) : stands S W C t a k (i + 1) = stands S W C t a k i := by
  unfold stands; rw [cameL_no C hc]

theorem stands_yes (hC : C.length = W.length) (k i : Nat) (hk : k < S.length) (hi : i < W.length) (hc : C.getD i false = true) :
    stands S W C t a k (i + 1) = if (rd_T43 W i).f0 = k ∧ (rd_T43 W i).f1.size = 256 then layAt t a i (rd_T43 W i).f1 (stands S W C t a k i) else stands S W C t a k i := by
  obtain ⟨hl, e⟩ := cameL_yes C (show i < C.length by omega) hc
  have hln := afterFold_length W t a (cameL C i) S
  unfold stands
  rw [e, afterFold_snoc]
  generalize afterFold W t a S (cameL C i) = out at *
  show (afterStep W t a out i).getD k ByteArray.empty = _
  unfold afterStep
  by_cases h : (rd_T43 W i).f0 = k ∧ (rd_T43 W i).f1.size = 256
  · rw [if_pos h, if_pos ⟨hi, by omega, by omega, h.2⟩, h.1, Int.toNat_natCast, getD_set_self _ (by omega)]
  · rw [if_neg h]
    split
    · rename_i h2
      exact getD_set_ne _ (fun e => h ⟨by omega, h2.2.2.2⟩) _
    · rfl

theorem each_l1 (hS : All256 S) (hC : C.length = W.length) (hW : W.length ≤ 20) (hS8 : S.length ≤ 8) (ha : 0 ≤ a ∧ a ≤ 256) (k : Nat) (hk : k < S.length) (hnext : ∃ m, foyerlaw04_FateEach.l0 m S W (fateAfter S W C t a) ((k + 1 : Nat) : Int) C t a = some true) :
    ∀ d i, i + d = W.length → ∃ m, foyerlaw04_FateEach.l1 m S W (fateAfter S W C t a) (k : Int) (stands S W C t a k i) (i : Int) C t a = some true
  | 0, i, hi => by
    obtain ⟨m, hm⟩ := hnext
    refine ⟨m + 1, ?_⟩
    obtain rfl : i = W.length := by omega
    have hl : (fateAfter S W C t a).length = S.length := afterFold_length W t a _ S
    rw [foyerlaw04_FateEach.l1]
    have he : rdOf ByteArray.empty (fateAfter S W C t a) (k : Int) = stands S W C t a k W.length := by
      unfold stands fateAfter rdOf
      rw [Int.toNat_natCast, ← hC]
    rw [if_neg (by omega), if_pos (by omega), if_pos (by omega), he, if_pos rfl, w64_succ _ (by omega)]
    exact hm
  | d + 1, i, hi => by
    obtain ⟨m, hm⟩ := each_l1 hS hC hW hS8 ha k hk hnext d (i + 1) (by omega)
    have hrd : rdOf false C (i : Int) = C.getD i false := by simp [rdOf]
    have hsz := stands_size S W C t a hS k i hk
    refine ⟨m + 1 + 1, ?_⟩
    rw [foyerlaw04_FateEach.l1]
    rw [if_pos (by omega), if_pos (by omega), if_pos (by omega), hrd]
    cases hc : C.getD i false with
    | false =>
      rw [stands_no S W C t a k i hc] at hm
      rw [if_neg (by simp), foyerlaw04_FateEach.j3]
      rw [if_pos rfl, w64_succ _ (by omega)]
      exact hm
    | true =>
      rw [stands_yes S W C t a hC k i hk (by omega) hc] at hm
      rw [if_pos rfl]
      by_cases h0 : (rd_T43 W i).f0 = k
      · rw [if_pos h0, foyerlaw04_FateEach.j3]
        by_cases h1 : (rd_T43 W i).f1.size = 256
        · rw [if_pos ⟨h0, h1⟩] at hm
          rw [if_neg (by rw [h1]; simp), if_pos (by omega), if_pos (by omega)]
          by_cases ht : (i : Int) = t
          · rw [layAt_torn t a i _ _ ht ha h1] at hm
            rw [if_pos ht, if_pos ha.1, if_pos (by omega), if_pos (by omega), if_pos (by rw [extract_size, ByteArray.size_extract]; omega), w64_succ _ (by omega)]
            exact hm
          · rw [layAt_whole t a i _ _ ht h1 hsz] at hm
            rw [if_neg ht, w64_succ _ (by omega)]
            exact hm
        · rw [if_neg (fun h => h1 h.2)] at hm
          rw [if_pos (by simp; omega), w64_succ _ (by omega)]
          exact hm
      · rw [if_neg (fun h => h0 h.1)] at hm
        rw [if_neg h0, foyerlaw04_FateEach.j3]
        rw [if_pos rfl, w64_succ _ (by omega)]
        exact hm

theorem each_l0 (hS : All256 S) (hC : C.length = W.length) (hW : W.length ≤ 20) (hS8 : S.length ≤ 8) (ha : 0 ≤ a ∧ a ≤ 256) : ∀ d k, k + d = S.length → ∃ m, foyerlaw04_FateEach.l0 m S W (fateAfter S W C t a) (k : Int) C t a = some true
  | 0, k, hk => ⟨1, by
    rw [foyerlaw04_FateEach.l0]
    rw [if_neg (by omega)]⟩
  | d + 1, k, hk => by
    have hn := each_l0 hS hC hW hS8 ha d (k + 1) (by omega)
    obtain ⟨m, hm⟩ := each_l1 S W C t a hS hC hW hS8 ha k (by omega) hn W.length 0 (by omega)
    refine ⟨m + 1, ?_⟩
    rw [foyerlaw04_FateEach.l0]
    rw [if_pos (by omega), if_pos (by omega)]
    have he : rdOf ByteArray.empty S (k : Int) = stands S W C t a k 0 := by
      unfold stands rdOf
      rw [Int.toNat_natCast]
      rfl
    rw [he]
    exact hm
end

theorem fateEach_true (l0 : List Int) (l1 : List S88) (l2 : List Int) (h1 : ∀ x ∈ l1, Lay8 x) (h2 : Bytes l2) : ∃ k, foyerlaw04_FateEach.f k l0 l1 l2 = some true := by
  obtain ⟨k0, e0⟩ := sectorsP l0
  obtain ⟨k1, e1⟩ := writesP l1 h1
  have hS := secsOf_all l0
  have hS8 := secsOf_length l0
  have hW := writesOf_length l1
  generalize secsOf l0 = S at *
  generalize writesOf l1 = W at *
  obtain ⟨hmay, _⟩ := read_may l2 h2 W.length
  have hC := fateReadN_length l2 W.length
  have hr : fate_Read.f l2 (W.length : Int) = some (fateReadN l2 W.length) := by
    unfold fate_Read.f
    rw [if_pos ((bytesB_iff _).2 h2)]
    unfold fateRead
    rw [show (min (max (W.length : Int) 0) 4096).toNat = W.length by omega]
  generalize fateReadN l2 W.length = F at *
  obtain ⟨C, t, a⟩ := F
  dsimp only at hmay hC
  have ha := mayB_at hmay
  obtain ⟨k2, e2⟩ := each_l0 S W C t a hS hC hW hS8 ha S.length 0 (by omega)
  have hl : (fateAfter S W C t a).length = S.length := afterFold_length W t a _ S
  have hm := foyerlaw04_FateEach.mono_l
  have e2' : foyerlaw04_FateEach.j0 (k2 + 1) S W (fateAfter S W C t a) false C t a = some true := by
    rw [foyerlaw04_FateEach.j0]
    rw [if_neg (by simp)]
    exact e2
  refine ⟨max (max k0 k1) (k2 + 1), ?_⟩
  have f0 := upTo (fun k => foyerlaw04_sectors.f k l0) (foyerlaw04_sectors.mono l0) (show k0 ≤ max (max k0 k1) (k2 + 1) by omega) e0
  have f1 := upTo (fun k => foyerlaw04_writes.f k l1) (foyerlaw04_writes.mono l1) (show k1 ≤ max (max k0 k1) (k2 + 1) by omega) e1
  have f2 := upTo (fun k => foyerlaw04_FateEach.j0 k S W (fateAfter S W C t a) false C t a) (fun k => (hm k).1 _ _ _ _ _ _ _) (show k2 + 1 ≤ max (max k0 k1) (k2 + 1) by omega) e2'
  unfold foyerlaw04_FateEach.f foyerlaw04_works.f
  rw [Option.bind_some, if_pos rfl, f0, Option.bind_some, f1, Option.bind_some, hr, Option.bind_some]
  dsimp only
  unfold fate_After.f
  rw [if_pos ⟨(all256B_iff _).2 hS, by omega⟩, Option.bind_some, if_pos (by rw [hl]), show ((C.length : Int) != (W.length : Int)) = false by rw [hC]; simp]
  exact f2
end Go.Proofs.Ytknibnbepmdapaa
