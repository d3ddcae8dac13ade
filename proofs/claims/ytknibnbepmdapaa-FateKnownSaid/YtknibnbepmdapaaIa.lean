/-
Same and Whole: what they answer.
-/
import Derived.Test.YtknibnbepmdapaaKl
import Derived.Test.YtknibnbepmdapaaPFateReadsx3
import Derived.Test.YtknibnbepmdapaaPFateReadsx4
namespace Go.Proofs.Ytknibnbepmdapaa
open Go.RowKit Go.Shelf Go.Proofs.YtknibnbepmdapaaW.PrintWords Go.Proofs.YtknibnbepmdapaaW.PrintMore


theorem same_l0 (C : List Bool) (t a : Int) (hm : C.length ≤ 9223372036854775807) : ∀ d i, i + d = C.length → ∃ k, PFateReads.foyerref04_Same.l0 k (i : Int) C t a C t a = some true
  | 0, i, hi => ⟨1, by
    rw [PFateReads.foyerref04_Same.l0]
    rw [if_neg (by omega)]⟩
  | d + 1, i, hi => by
    obtain ⟨k, hk⟩ := same_l0 C t a hm d (i + 1) (by omega)
    refine ⟨k + 1, ?_⟩
    rw [PFateReads.foyerref04_Same.l0]
    rw [if_pos (by omega), if_pos (by omega), if_pos (by omega), if_neg (by simp), w64_succ _ (by omega)]
    exact hk

/-- **Same, of one fate.** -/
theorem same_calls (A1 : Option Addr) (c1 : Nat) (A2 : Option Addr) (c2 : Nat) (C : List Bool) (t a : Int) (w : World) (h1 : Kd.C Kd.bool w A1 C.length C) (hc1 : C.length ≤ c1) (h2 : Kd.C Kd.bool w A2 C.length C) (hc2 : C.length ≤ c2) :
    Calls Try.prog 23 #[.agg #[.slice A1 C.length c1, .int .i64 t, .int .i64 a], .agg #[.slice A2 C.length c2, .int .i64 t, .int .i64 a]] w fun e w' => e = .returned (.bool true) ∧ Below w.heap.size w w' := by
  obtain ⟨k, hk⟩ := same_l0 C t a (Kd.C_max h1) C.length 0 (by omega)
  refine PFateReads.foyerref04_Same.calls (k + 1) A1 c1 C t a A2 c2 C t a true w h1 hc1 h2 hc2 ?_
  unfold PFateReads.foyerref04_Same.f
  rw [if_pos rfl, if_pos rfl, PFateReads.foyerref04_Same.j0]
  rw [if_neg (by simp)]
  exact hk

def wholeOf (n : Int) : List Bool := List.replicate (min (max n 0) 4096).toNat true

theorem rep_true (j d : Nat) : (List.replicate j true ++ List.replicate (d + 1) false).set j true = List.replicate (j + 1) true ++ List.replicate d false := by
  rw [List.set_append_right _ _ (by simp), List.length_replicate, Nat.sub_self, List.replicate_succ, List.set_cons_zero, List.replicate_succ', List.append_assoc]
  rfl

theorem whole_l0 (N : Nat) (t a : Int) (hN : N ≤ 4096) : ∀ d j, j + d = N → ∃ k, PFateReads.fate_Whole.l0 k (N : Int) (j : Int) (List.replicate j true ++ List.replicate d false) t a = some (List.replicate N true, t, a)
  | 0, j, hj => ⟨1, by
    obtain rfl : j = N := by omega
    rw [PFateReads.fate_Whole.l0]
    rw [if_neg (by omega), List.replicate_zero, List.append_nil]⟩
  | d + 1, j, hj => by
    obtain ⟨k, hk⟩ := whole_l0 N t a hN d (j + 1) (by omega)
    refine ⟨k + 1, ?_⟩
    rw [PFateReads.fate_Whole.l0]
    rw [if_pos (by omega), if_pos (by omega), if_pos (by rw [List.length_append, List.length_replicate, List.length_replicate]; omega), w64_succ _ (by omega), Int.toNat_natCast, rep_true]
    exact hk

/-- **Whole.** -/
theorem whole_calls (n : Int) (w : World) : Calls Try.prog 24 #[.int .i64 n] w (ReadPost w (wholeOf n, -1, 0)) := by
  obtain ⟨N, hN⟩ : ∃ N : Nat, min (max n 0) 4096 = (N : Int) := ⟨(min (max n 0) 4096).toNat, by omega⟩
  obtain ⟨k, hk⟩ := whole_l0 N (-1) 0 (by omega) N 0 (by omega)
  refine PFateReads.fate_Whole.calls k n (wholeOf n) (-1) 0 w ?_
  unfold PFateReads.fate_Whole.f PFateReads.fate_limited.f
  rw [Option.bind_some, show mn (mx n 0) 4096 = (N : Int) by unfold mn mx; split <;> split <;> omega, if_pos (by omega), Int.toNat_natCast, if_pos (by omega), Option.bind_some, List.length_replicate]
  unfold wholeOf
  rw [hN, Int.toNat_natCast]
  exact hk

theorem wholeRef_l0 (n : Int) (N : Nat) (hN : max 0 (min n 4096) = (N : Int)) (t a : Int) : ∀ d j, j + d = N → ∃ k, PFateReads.foyerref04_Whole.l0 k n (j : Int) (List.replicate j true) t a = some (List.replicate N true, t, a)
  | 0, j, hj => ⟨1, by
    obtain rfl : j = N := by omega
    rw [PFateReads.foyerref04_Whole.l0]
    unfold PFateReads.foyerref04_many.f
    rw [Option.bind_some, show mx 0 (mn n 4096) = (j : Int) by unfold mn mx; split <;> split <;> omega, if_neg (by omega)]⟩
  | d + 1, j, hj => by
    obtain ⟨k, hk⟩ := wholeRef_l0 n N hN t a d (j + 1) (by omega)
    refine ⟨k + 1, ?_⟩
    rw [PFateReads.foyerref04_Whole.l0]
    unfold PFateReads.foyerref04_many.f
    rw [Option.bind_some, show mx 0 (mn n 4096) = (N : Int) by unfold mn mx; split <;> split <;> omega, if_pos (by omega), if_pos (by rw [List.length_replicate]; omega), w64_succ _ (by omega), ← List.replicate_succ']
    exact hk

/-- **The document's Whole.** -/
theorem wholeRef_calls (n : Int) (w : World) : Calls Try.prog 25 #[.int .i64 n] w (ReadPost w (wholeOf n, -1, 0)) := by
  obtain ⟨N, hN⟩ : ∃ N : Nat, max 0 (min n 4096) = (N : Int) := ⟨(max 0 (min n 4096)).toNat, by omega⟩
  obtain ⟨k, hk⟩ := wholeRef_l0 n N hN (-1) 0 N 0 (by omega)
  refine PFateReads.foyerref04_Whole.calls k n (wholeOf n) (-1) 0 w ?_
  unfold PFateReads.foyerref04_Whole.f wholeOf
  rw [show (min (max n 0) 4096).toNat = N by omega]
  exact hk

end Go.Proofs.Ytknibnbepmdapaa
