/-
The plain law of FateBack.
-/
import Derived.Test.YtknibnbepmdapaaPFatex2
import Derived.Test.YtknibnbepmdapaaHb
import Derived.OpenShut
namespace Go.Proofs.Ytknibnbepmdapaa.Pure
open Go.RowKit Go.Proofs.Ytknibnbepmdapaa Go.Proofs.Ytknibnbepmdapaa.PFate Go.Proofs.YtknibnbepmdapaaW.PrintWords Go.Proofs.YtknibnbepmdapaaW.PrintLast

theorem wf_byte {x : Int} (h : (Lit.int .u8 x).wf = true) : 0 ≤ x ∧ x < 256 := by
  have := bounds_u8 h
  omega

theorem w64_nat (n : Nat) (h : n < 4294967296) : wrap64 (n : Int) = n := by unfold wrap64; omega
theorem w64_succ (n : Nat) (h : n < 4294967295) : wrap64 ((n : Int) + 1) = ((n + 1 : Nat) : Int) := by unfold wrap64; omega

section
variable (C : List Bool) (torn at_ : Int) (hlen : C.length ≤ 4096)
include hlen

theorem back_l1 : ∀ d i, i + d = C.length → ∃ k, foyerlaw04_FateBack.l1 k (i : Int) C torn at_ C torn at_ = some true
  | 0, i, hi => ⟨1, by
    rw [foyerlaw04_FateBack.l1]
    rw [if_neg (by omega)]⟩
  | d + 1, i, hi => by
    obtain ⟨k, hk⟩ := back_l1 d (i + 1) (by omega)
    refine ⟨k + 1, ?_⟩
    rw [foyerlaw04_FateBack.l1]
    rw [if_pos (by omega), if_pos (by omega), if_pos (by omega), if_neg (by simp), w64_succ _ (by omega)]
    exact hk

theorem back_end (a1 : Int) (ha : 0 ≤ a1 ∧ a1 < 256) (hn : C.length = a1.toNat) (hmay : mayB C torn at_ = true) (hah : aheadOf torn (cameL C C.length) ≤ 127) (x6 : Int) (h6 : x6 < 128) (x7 : Int) :
    ∃ k, foyerlaw04_FateBack.j1 k a1 x6 x7 false C torn at_ = some true := by
  obtain ⟨k, hk⟩ := back_l1 C torn at_ hlen C.length 0 (by omega)
  obtain ⟨h1, h2, h3⟩ := read_put C torn at_ hmay hlen hah
  have hw : wrap64 a1 = a1 := by unfold wrap64; omega
  refine ⟨k + 1 + 1 + 1, ?_⟩
  have hr : fate_Read.f (fatePut C torn at_).1 a1 = some (C, torn, at_) := by
    unfold fate_Read.f
    rw [if_pos ((bytesB_iff _).2 h2)]
    unfold fateRead
    rw [show (min (max a1 0) 4096).toNat = C.length by omega, h3]
  rw [foyerlaw04_FateBack.j1]
  rw [if_neg (by simp)]
  unfold fate_Put.f
  rw [Option.bind_some, hw, if_pos (by omega), h1]
  rw [foyerlaw04_FateBack.j2]
  rw [if_neg (by simp; omega), if_pos rfl, hw, hr, Option.bind_some]
  dsimp only
  rw [if_pos rfl, if_pos rfl]
  rw [foyerlaw04_FateBack.j3]
  rw [if_neg (by simp)]
  exact hk

theorem back_l0 (a1 : Int) (ha : 0 ≤ a1 ∧ a1 < 256) (hn : C.length = a1.toNat) (hmay : mayB C torn at_ = true) (hah : aheadOf torn (cameL C C.length) ≤ 127) :
    ∀ (d i : Nat), (i : Int) + d = max torn 0 → ∃ k, foyerlaw04_FateBack.l0 k a1 ((cameL C i).length : Nat) (i : Int) C torn at_ = some true
  | 0, i, hi => by
    have hcnt : ((cameL C i).length : Int) < 128 := by
      by_cases ht : torn = -1
      · obtain rfl : i = 0 := by omega
        show ((0 : Nat) : Int) < 128
        decide
      · have hm := hmay
        unfold mayB at hm
        rw [if_neg ht, decide_eq_true_eq] at hm
        obtain ⟨t0, t1, tc, _, _⟩ := hm
        obtain rfl : torn = (i : Int) := by omega
        rw [Int.toNat_natCast] at tc
        have := aheadOf_count C (by omega) tc
        omega
    obtain ⟨k, hk⟩ := back_end C torn at_ hlen a1 ha hn hmay hah _ hcnt (i : Int)
    refine ⟨k + 1, ?_⟩
    rw [foyerlaw04_FateBack.l0]
    rw [if_neg (by omega)]
    exact hk
  | d + 1, i, hi => by
    obtain ⟨k, hk⟩ := back_l0 a1 ha hn hmay hah d (i + 1) (by omega)
    have ht : torn ≠ -1 := by omega
    have hm := hmay
    unfold mayB at hm
    rw [if_neg ht, decide_eq_true_eq] at hm
    obtain ⟨t0, t1, tc, _, _⟩ := hm
    have hic : i < C.length := by omega
    have hcl := cameL_length C i
    refine ⟨k + 1 + 1, ?_⟩
    rw [foyerlaw04_FateBack.l0]
    rw [if_pos (by omega), show decide ((i : Int) < (C.length : Int)) = true by rw [decide_eq_true_eq]; omega]
    rw [foyerlaw04_FateBack.j1]
    rw [if_pos rfl, if_pos (by omega), if_pos (by omega), show rdOf false C (i : Int) = C.getD i false by simp [rdOf], w64_succ i (by omega), w64_succ (cameL C i).length (by omega)]
    cases hb : C.getD i false with
    | true =>
      obtain ⟨hl, e⟩ := cameL_yes C hic hb
      rw [if_pos rfl]
      rw [e, List.length_append, List.length_singleton] at hk
      exact hk
    | false =>
      rw [if_neg (by simp)]
      rw [cameL_no C hb] at hk
      exact hk
end

theorem FateBack : foyerlaw04_FateBack.Pure := by
  intro l0 a1 _ _ hb ha
  have ha := wf_byte ha
  have hby : Bytes l0 := fun x hx => wf_byte (hb x hx)
  have hw : wrap64 a1 = a1 := by unfold wrap64; omega
  obtain ⟨hmay, hah⟩ := read_may l0 hby a1.toNat
  have hn := fateReadN_length l0 a1.toNat
  obtain ⟨k, hk⟩ := back_l0 _ _ _ (by rw [hn]; omega) a1 ha hn hmay hah (max (fateReadN l0 a1.toNat).2.1 0).toNat 0 (by omega)
  refine ⟨k, ?_⟩
  unfold foyerlaw04_FateBack.f foyerlaw04_works.f
  rw [Option.bind_some, if_pos rfl, hw]
  unfold fate_Read.f
  rw [if_pos ((bytesB_iff _).2 hby), Option.bind_some]
  unfold fateRead
  rw [show (min (max a1 0) 4096).toNat = a1.toNat by omega]
  exact hk

end Go.Proofs.Ytknibnbepmdapaa.Pure
