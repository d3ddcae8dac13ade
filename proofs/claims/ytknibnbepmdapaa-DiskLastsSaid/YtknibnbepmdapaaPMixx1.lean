/- Functions of the laws as Lean functions, with their contracts: printed by a variant of the print program of the kit; the functions that it does not take are given by hand in the modules imported. -/
import Derived.Test.YtknibnbepmdapaaPMixx0
namespace Go.Proofs.Ytknibnbepmdapaa.PMix
open Go.RowKit Go.Proofs.YtknibnbepmdapaaW.PrintWords Go.Proofs.YtknibnbepmdapaaW.PrintLast Go.Proofs.YtknibnbepmdapaaW.PrintMore
attribute [local go_sem] max2_int min2_int max_two min_two max_three min_three max_four min_four   -- for this text's walks alone
set_option linter.unusedVariables false
set_option linter.unusedSimpArgs false

/-! ### foyerlaw05_mixed: function 36 -/
mutual
def foyerlaw05_mixed.l0 : Nat → ByteArray → List ByteArray → Bool → Bool → Int → Option (Bool × Bool)
  | 0, _, _, _, _, _ => none
  | k + 1, x0, x1, x4, x5, x6 => if x6 < (x1.length : Int) then (if x4 = true then (foyerlaw05_mixed.l0 k x0 x1 true x5 (wrap64 (x6 + 1))) else (if 0 ≤ x6 then (foyerlaw05_mixed.l0 k x0 x1 (x0.toList == (rdOf ByteArray.empty x1 x6).toList) x5 (wrap64 (x6 + 1))) else (none))) else (foyerlaw05_mixed.l1 k x0 x1 x4 x5 0)
def foyerlaw05_mixed.l1 : Nat → ByteArray → List ByteArray → Bool → Bool → Int → Option (Bool × Bool)
  | 0, _, _, _, _, _ => none
  | k + 1, x0, x1, x4, x5, x7 => if x7 < (x1.length : Int) then (foyerlaw05_mixed.j2 k x0 x1 x4 x5 x7 (!x4)) else (foyerlaw05_mixed.j2 k x0 x1 x4 x5 x7 false)
def foyerlaw05_mixed.j2 : Nat → ByteArray → List ByteArray → Bool → Bool → Int → Bool → Option (Bool × Bool)
  | 0, _, _, _, _, _, _ => none
  | k + 1, x0, x1, x4, x5, x7, x33 => if x33 = true then (foyerlaw05_mixed.l2 k x0 x1 x4 x5 x7 0) else (some (x4, x5))
def foyerlaw05_mixed.j4 : Nat → ByteArray → List ByteArray → Bool → Bool → Int → Int → Option (Bool × Bool)
  | 0, _, _, _, _, _, _ => none
  | k + 1, x0, x1, x4, x5, x7, x8 => foyerlaw05_mixed.l3 k x0 x1 x4 x5 x7 x8 0
def foyerlaw05_mixed.l3 : Nat → ByteArray → List ByteArray → Bool → Bool → Int → Int → Int → Option (Bool × Bool)
  | 0, _, _, _, _, _, _, _ => none
  | k + 1, x0, x1, x4, x5, x7, x8, x9 => if x9 < (x1.length : Int) then (foyerlaw05_mixed.l4 k x0 x1 x4 x5 x7 x8 x9 (x0.size : Int)) else (foyerlaw05_mixed.l1 k x0 x1 x4 x5 (wrap64 (x7 + 1)))
def foyerlaw05_mixed.l4 : Nat → ByteArray → List ByteArray → Bool → Bool → Int → Int → Int → Int → Option (Bool × Bool)
  | 0, _, _, _, _, _, _, _, _ => none
  | k + 1, x0, x1, x4, x5, x7, x8, x9, x10 => if x10 > 0 then (if 0 ≤ (wrap64 (x10 - 1)) then (if (wrap64 (x10 - 1)) < (x0.size : Int) then (if 0 ≤ x9 then (if x9 < (x1.length : Int) then (if (wrap64 (x10 - 1)) < ((rdOf ByteArray.empty x1 x9).size : Int) then (if (bt x0 (wrap64 (x10 - 1))) = (bt (rdOf ByteArray.empty x1 x9) (wrap64 (x10 - 1))) then (foyerlaw05_mixed.l4 k x0 x1 x4 x5 x7 x8 x9 (wrap64 (x10 - 1))) else (if x5 = true then (foyerlaw05_mixed.l3 k x0 x1 x4 true x7 x8 (wrap64 (x9 + 1))) else (foyerlaw05_mixed.l3 k x0 x1 x4 (decide (x10 ≤ x8)) x7 x8 (wrap64 (x9 + 1))))) else (none)) else (none)) else (none)) else (none)) else (none)) else (if x5 = true then (foyerlaw05_mixed.l3 k x0 x1 x4 true x7 x8 (wrap64 (x9 + 1))) else (foyerlaw05_mixed.l3 k x0 x1 x4 (decide (x10 ≤ x8)) x7 x8 (wrap64 (x9 + 1))))
def foyerlaw05_mixed.l2 : Nat → ByteArray → List ByteArray → Bool → Bool → Int → Int → Option (Bool × Bool)
  | 0, _, _, _, _, _, _ => none
  | k + 1, x0, x1, x4, x5, x7, x8 => if x8 < (x0.size : Int) then (if 0 ≤ x8 then (if 0 ≤ x7 then (if x7 < (x1.length : Int) then (if x8 < ((rdOf ByteArray.empty x1 x7).size : Int) then (if (bt x0 x8) = (bt (rdOf ByteArray.empty x1 x7) x8) then (foyerlaw05_mixed.l2 k x0 x1 x4 x5 x7 (wrap64 (x8 + 1))) else (foyerlaw05_mixed.j4 k x0 x1 x4 x5 x7 x8)) else (none)) else (none)) else (none)) else (none)) else (foyerlaw05_mixed.j4 k x0 x1 x4 x5 x7 x8)
end
def foyerlaw05_mixed.f (k : Nat) (a0 : ByteArray) (l1 : List ByteArray) : Option (Bool × Bool) := foyerlaw05_mixed.l0 k a0 l1 false false 0
theorem foyerlaw05_mixed.mono_l : ∀ k, (∀ y0 y1 y2 y3 y4, LeO (foyerlaw05_mixed.l0 k y0 y1 y2 y3 y4) (foyerlaw05_mixed.l0 (k + 1) y0 y1 y2 y3 y4)) ∧ (∀ y0 y1 y2 y3 y4, LeO (foyerlaw05_mixed.l1 k y0 y1 y2 y3 y4) (foyerlaw05_mixed.l1 (k + 1) y0 y1 y2 y3 y4)) ∧ (∀ y0 y1 y2 y3 y4 y5, LeO (foyerlaw05_mixed.j2 k y0 y1 y2 y3 y4 y5) (foyerlaw05_mixed.j2 (k + 1) y0 y1 y2 y3 y4 y5)) ∧ (∀ y0 y1 y2 y3 y4 y5, LeO (foyerlaw05_mixed.j4 k y0 y1 y2 y3 y4 y5) (foyerlaw05_mixed.j4 (k + 1) y0 y1 y2 y3 y4 y5)) ∧ (∀ y0 y1 y2 y3 y4 y5 y6, LeO (foyerlaw05_mixed.l3 k y0 y1 y2 y3 y4 y5 y6) (foyerlaw05_mixed.l3 (k + 1) y0 y1 y2 y3 y4 y5 y6)) ∧ (∀ y0 y1 y2 y3 y4 y5 y6 y7, LeO (foyerlaw05_mixed.l4 k y0 y1 y2 y3 y4 y5 y6 y7) (foyerlaw05_mixed.l4 (k + 1) y0 y1 y2 y3 y4 y5 y6 y7)) ∧ (∀ y0 y1 y2 y3 y4 y5, LeO (foyerlaw05_mixed.l2 k y0 y1 y2 y3 y4 y5) (foyerlaw05_mixed.l2 (k + 1) y0 y1 y2 y3 y4 y5))
  | 0 => ⟨fun _ _ _ _ _ r h => by simp [foyerlaw05_mixed.l0] at h, fun _ _ _ _ _ r h => by simp [foyerlaw05_mixed.l1] at h, fun _ _ _ _ _ _ r h => by simp [foyerlaw05_mixed.j2] at h, fun _ _ _ _ _ _ r h => by simp [foyerlaw05_mixed.j4] at h, fun _ _ _ _ _ _ _ r h => by simp [foyerlaw05_mixed.l3] at h, fun _ _ _ _ _ _ _ _ r h => by simp [foyerlaw05_mixed.l4] at h, fun _ _ _ _ _ _ r h => by simp [foyerlaw05_mixed.l2] at h⟩
  | k + 1 => by
    obtain ⟨ih0, ih1, ih2, ih3, ih4, ih5, ih6⟩ := foyerlaw05_mixed.mono_l k
    refine ⟨?_, ?_, ?_, ?_, ?_, ?_, ?_⟩
    · intro y0 y1 y2 y3 y4
      unfold foyerlaw05_mixed.l0
      repeat' first
      | (with_reducible exact ih0 _ _ _ _ _)
      | (with_reducible exact ih1 _ _ _ _ _)
      | (with_reducible exact ih2 _ _ _ _ _ _)
      | (with_reducible exact ih3 _ _ _ _ _ _)
      | (with_reducible exact ih4 _ _ _ _ _ _ _)
      | (with_reducible exact ih5 _ _ _ _ _ _ _ _)
      | (with_reducible exact ih6 _ _ _ _ _ _)
      | (with_reducible exact LeO.refl _)
      | (with_reducible exact LeO.none _)
      | (with_reducible refine LeO.ite ?_ ?_)
      | (with_reducible refine LeO.bind ?_ (fun _ => ?_))
      | exact ih0 _ _ _ _ _
      | exact ih1 _ _ _ _ _
      | exact ih2 _ _ _ _ _ _
      | exact ih3 _ _ _ _ _ _
      | exact ih4 _ _ _ _ _ _ _
      | exact ih5 _ _ _ _ _ _ _ _
      | exact ih6 _ _ _ _ _ _
      | exact LeO.none _
      | refine LeO.ite ?_ ?_
      | refine LeO.bind ?_ (fun _ => ?_)
    · intro y0 y1 y2 y3 y4
      unfold foyerlaw05_mixed.l1
      repeat' first
      | (with_reducible exact ih0 _ _ _ _ _)
      | (with_reducible exact ih1 _ _ _ _ _)
      | (with_reducible exact ih2 _ _ _ _ _ _)
      | (with_reducible exact ih3 _ _ _ _ _ _)
      | (with_reducible exact ih4 _ _ _ _ _ _ _)
      | (with_reducible exact ih5 _ _ _ _ _ _ _ _)
      | (with_reducible exact ih6 _ _ _ _ _ _)
      | (with_reducible exact LeO.refl _)
      | (with_reducible exact LeO.none _)
      | (with_reducible refine LeO.ite ?_ ?_)
      | (with_reducible refine LeO.bind ?_ (fun _ => ?_))
      | exact ih0 _ _ _ _ _
      | exact ih1 _ _ _ _ _
      | exact ih2 _ _ _ _ _ _
      | exact ih3 _ _ _ _ _ _
      | exact ih4 _ _ _ _ _ _ _
      | exact ih5 _ _ _ _ _ _ _ _
      | exact ih6 _ _ _ _ _ _
      | exact LeO.none _
      | refine LeO.ite ?_ ?_
      | refine LeO.bind ?_ (fun _ => ?_)
    · intro y0 y1 y2 y3 y4 y5
      unfold foyerlaw05_mixed.j2
      repeat' first
      | (with_reducible exact ih0 _ _ _ _ _)
      | (with_reducible exact ih1 _ _ _ _ _)
      | (with_reducible exact ih2 _ _ _ _ _ _)
      | (with_reducible exact ih3 _ _ _ _ _ _)
      | (with_reducible exact ih4 _ _ _ _ _ _ _)
      | (with_reducible exact ih5 _ _ _ _ _ _ _ _)
      | (with_reducible exact ih6 _ _ _ _ _ _)
      | (with_reducible exact LeO.refl _)
      | (with_reducible exact LeO.none _)
      | (with_reducible refine LeO.ite ?_ ?_)
      | (with_reducible refine LeO.bind ?_ (fun _ => ?_))
      | exact ih0 _ _ _ _ _
      | exact ih1 _ _ _ _ _
      | exact ih2 _ _ _ _ _ _
      | exact ih3 _ _ _ _ _ _
      | exact ih4 _ _ _ _ _ _ _
      | exact ih5 _ _ _ _ _ _ _ _
      | exact ih6 _ _ _ _ _ _
      | exact LeO.none _
      | refine LeO.ite ?_ ?_
      | refine LeO.bind ?_ (fun _ => ?_)
    · intro y0 y1 y2 y3 y4 y5
      unfold foyerlaw05_mixed.j4
      repeat' first
      | (with_reducible exact ih0 _ _ _ _ _)
      | (with_reducible exact ih1 _ _ _ _ _)
      | (with_reducible exact ih2 _ _ _ _ _ _)
      | (with_reducible exact ih3 _ _ _ _ _ _)
      | (with_reducible exact ih4 _ _ _ _ _ _ _)
      | (with_reducible exact ih5 _ _ _ _ _ _ _ _)
      | (with_reducible exact ih6 _ _ _ _ _ _)
      | (with_reducible exact LeO.refl _)
      | (with_reducible exact LeO.none _)
      | (with_reducible refine LeO.ite ?_ ?_)
      | (with_reducible refine LeO.bind ?_ (fun _ => ?_))
      | exact ih0 _ _ _ _ _
      | exact ih1 _ _ _ _ _
      | exact ih2 _ _ _ _ _ _
      | exact ih3 _ _ _ _ _ _
      | exact ih4 _ _ _ _ _ _ _
      | exact ih5 _ _ _ _ _ _ _ _
      | exact ih6 _ _ _ _ _ _
      | exact LeO.none _
      | refine LeO.ite ?_ ?_
      | refine LeO.bind ?_ (fun _ => ?_)
    · intro y0 y1 y2 y3 y4 y5 y6
      unfold foyerlaw05_mixed.l3
      repeat' first
      | (with_reducible exact ih0 _ _ _ _ _)
      | (with_reducible exact ih1 _ _ _ _ _)
      | (with_reducible exact ih2 _ _ _ _ _ _)
      | (with_reducible exact ih3 _ _ _ _ _ _)
      | (with_reducible exact ih4 _ _ _ _ _ _ _)
      | (with_reducible exact ih5 _ _ _ _ _ _ _ _)
      | (with_reducible exact ih6 _ _ _ _ _ _)
      | (with_reducible exact LeO.refl _)
      | (with_reducible exact LeO.none _)
      | (with_reducible refine LeO.ite ?_ ?_)
      | (with_reducible refine LeO.bind ?_ (fun _ => ?_))
      | exact ih0 _ _ _ _ _
      | exact ih1 _ _ _ _ _
      | exact ih2 _ _ _ _ _ _
      | exact ih3 _ _ _ _ _ _
      | exact ih4 _ _ _ _ _ _ _
      | exact ih5 _ _ _ _ _ _ _ _
      | exact ih6 _ _ _ _ _ _
      | exact LeO.none _
      | refine LeO.ite ?_ ?_
      | refine LeO.bind ?_ (fun _ => ?_)
    · intro y0 y1 y2 y3 y4 y5 y6 y7
      unfold foyerlaw05_mixed.l4
      repeat' first
      | (with_reducible exact ih0 _ _ _ _ _)
      | (with_reducible exact ih1 _ _ _ _ _)
      | (with_reducible exact ih2 _ _ _ _ _ _)
      | (with_reducible exact ih3 _ _ _ _ _ _)
      | (with_reducible exact ih4 _ _ _ _ _ _ _)
      | (with_reducible exact ih5 _ _ _ _ _ _ _ _)
      | (with_reducible exact ih6 _ _ _ _ _ _)
      | (with_reducible exact LeO.refl _)
      | (with_reducible exact LeO.none _)
      | (with_reducible refine LeO.ite ?_ ?_)
      | (with_reducible refine LeO.bind ?_ (fun _ => ?_))
      | exact ih0 _ _ _ _ _
      | exact ih1 _ _ _ _ _
      | exact ih2 _ _ _ _ _ _
      | exact ih3 _ _ _ _ _ _
      | exact ih4 _ _ _ _ _ _ _
      | exact ih5 _ _ _ _ _ _ _ _
      | exact ih6 _ _ _ _ _ _
      | exact LeO.none _
      | refine LeO.ite ?_ ?_
      | refine LeO.bind ?_ (fun _ => ?_)
    · intro y0 y1 y2 y3 y4 y5
      unfold foyerlaw05_mixed.l2
      repeat' first
      | (with_reducible exact ih0 _ _ _ _ _)
      | (with_reducible exact ih1 _ _ _ _ _)
      | (with_reducible exact ih2 _ _ _ _ _ _)
      | (with_reducible exact ih3 _ _ _ _ _ _)
      | (with_reducible exact ih4 _ _ _ _ _ _ _)
      | (with_reducible exact ih5 _ _ _ _ _ _ _ _)
      | (with_reducible exact ih6 _ _ _ _ _ _)
      | (with_reducible exact LeO.refl _)
      | (with_reducible exact LeO.none _)
      | (with_reducible refine LeO.ite ?_ ?_)
      | (with_reducible refine LeO.bind ?_ (fun _ => ?_))
      | exact ih0 _ _ _ _ _
      | exact ih1 _ _ _ _ _
      | exact ih2 _ _ _ _ _ _
      | exact ih3 _ _ _ _ _ _
      | exact ih4 _ _ _ _ _ _ _
      | exact ih5 _ _ _ _ _ _ _ _
      | exact ih6 _ _ _ _ _ _
      | exact LeO.none _
      | refine LeO.ite ?_ ?_
      | refine LeO.bind ?_ (fun _ => ?_)
theorem foyerlaw05_mixed.mono : ∀ a0 a1 k, LeO (foyerlaw05_mixed.f k a0 a1) (foyerlaw05_mixed.f (k + 1) a0 a1) := by
  intro a0 a1 k
  obtain ⟨ih0, ih1, ih2, ih3, ih4, ih5, ih6⟩ := foyerlaw05_mixed.mono_l k
  unfold foyerlaw05_mixed.f
  repeat' first
      | (with_reducible exact ih0 _ _ _ _ _)
      | (with_reducible exact ih1 _ _ _ _ _)
      | (with_reducible exact ih2 _ _ _ _ _ _)
      | (with_reducible exact ih3 _ _ _ _ _ _)
      | (with_reducible exact ih4 _ _ _ _ _ _ _)
      | (with_reducible exact ih5 _ _ _ _ _ _ _ _)
      | (with_reducible exact ih6 _ _ _ _ _ _)
      | (with_reducible exact LeO.refl _)
      | (with_reducible exact LeO.none _)
      | (with_reducible refine LeO.ite ?_ ?_)
      | (with_reducible refine LeO.bind ?_ (fun _ => ?_))
      | exact ih0 _ _ _ _ _
      | exact ih1 _ _ _ _ _
      | exact ih2 _ _ _ _ _ _
      | exact ih3 _ _ _ _ _ _
      | exact ih4 _ _ _ _ _ _ _
      | exact ih5 _ _ _ _ _ _ _ _
      | exact ih6 _ _ _ _ _ _
      | exact LeO.none _
      | refine LeO.ite ?_ ?_
      | refine LeO.bind ?_ (fun _ => ?_)
set_option maxHeartbeats 8000000 in
set_option maxRecDepth 100000 in
theorem foyerlaw05_mixed.calls (k : Nat) (a0 : ByteArray) (A1 : Option Addr) (c1 : Nat) (l1 : List ByteArray) (r1 : Bool) (r2 : Bool) (w : World) (hr1 : Kd.C Kd.string w A1 l1.length l1) (hc1 : l1.length ≤ c1) (h : foyerlaw05_mixed.f k a0 l1 = some (r1, r2)) :
    Calls Try.prog 36 #[.string a0, .slice A1 l1.length c1] w fun e w' => e = .returned (.tuple #[.bool r1, .bool r2]) ∧ Drawn0 w w' := by
  have HR1 := Aside0.mk hr1
  have HC1 := Aside0.mk hc1
  clear hr1 hc1
  have H : (foyerlaw05_mixed.l0 k a0 l1 false false 0) = some (r1, r2) := h
  clear h
  have H' := Aside0.mk H
  clear H
  go_enter Try.func36, Try.ntmps36
  go_wp2
  repeat (go_quiet (fail); try go_wp2)
  go_loopg [4, 6] k (fun kq v4 v6 w' => ∃ (x4_1 : Bool) (x6_1 : Int), v4 = .bool x4_1 ∧ v6 = .int .i64 x6_1 ∧ Aside0 (foyerlaw05_mixed.l0 kq a0 l1 x4_1 false x6_1 = some (r1, r2)) ∧ Aside0 (kq ≤ k) ∧ Drawn0 w w')
  case atStart => exact ⟨(false), (0), (by first | rfl | (simp; done) | (simp [*]; done)), (by first | rfl | (simp; done) | (simp [*]; done)), H', ⟨Nat.le_refl _⟩, by repeat (first | exact Drawn0.refl _ | apply Drawn0.step)⟩
  case round =>
    clear H'
    try clear c1
    try clear p2
    obtain ⟨x4_1, x6_1, rfl, rfl, HA, HK1, ⟨m1, rfl⟩⟩ := hrel
    cases gk with
    | zero => exact absurd HA.out (by simp [foyerlaw05_mixed.l0])
    | succ k1 =>
      have H := HA.out
      clear HA
      simp only [foyerlaw05_mixed.l0] at H
      by_cases c3 : x6_1 < (l1.length : Int)
      · rw [if_pos c3] at H
        have c3b0 : decide (x6_1 < (l1.length : Int)) = true := decide_eq_true c3
        clear c3
        by_cases c4 : x4_1 = true
        · subst c4
          have H1 : (foyerlaw05_mixed.l0 k1 a0 l1 true false (wrap64 (x6_1 + 1))) = some (r1, r2) := by rw [if_pos rfl] at H; exact H
          clear H
          have H := H1
          clear H1
          have H' := Aside0.mk H
          clear H
          go_wp2
          repeat (go_quiet (fail); try go_wp2)
          go_roundg k1
          case measure => have := HK1.out; omega
          case rel => exact ⟨(true), (wrap64 (x6_1 + 1)), (by first | rfl | (simp; done) | (simp [*]; done)), (by first | rfl | (simp; done) | (simp [*]; done)), H', ⟨by have := HK1.out; omega⟩, by repeat (first | exact Drawn0.refl _ | apply Drawn0.step)⟩
        · replace c4 := Bool.eq_false_iff.mpr c4
          subst c4
          have H1 : (if 0 ≤ x6_1 then (foyerlaw05_mixed.l0 k1 a0 l1 (a0.toList == (rdOf ByteArray.empty l1 x6_1).toList) false (wrap64 (x6_1 + 1))) else (none)) = some (r1, r2) := by rw [if_neg (show ¬ (false = true) by decide)] at H; exact H
          clear H
          have H := H1
          clear H1
          by_cases c5 : 0 ≤ x6_1
          · rw [if_pos c5] at H
            have c5b0 : decide (0 ≤ x6_1) = true := decide_eq_true c5
            clear c5
            have H' := Aside0.mk H
            clear H
            have p101 : 0 ≤ (x6_1 : Int) := of_decide_eq_true (by first | (with_reducible assumption) | assumption)
            have q101 : x6_1 < (l1.length : Int) := of_decide_eq_true (by first | (with_reducible assumption) | assumption)
            obtain ⟨ad101, e101, hx101_0⟩ := Kd.at_string HR1.out x6_1 p101 q101
            cases e101
            replace p101 := eq_true p101
            replace q101 := eq_true q101
            go_wp2
            repeat (go_quiet (fail); try go_wp2)
            go_roundg k1
            case measure => have := HK1.out; omega
            case rel => exact ⟨((a0.toList == (rdOf ByteArray.empty l1 x6_1).toList)), (wrap64 (x6_1 + 1)), (by first | rfl | (simp; done) | (simp [*]; done)), (by first | rfl | (simp; done) | (simp [*]; done)), H', ⟨by have := HK1.out; omega⟩, by repeat (first | exact Drawn0.refl _ | apply Drawn0.step)⟩
          · rw [if_neg c5] at H
            exact absurd H (by simp)
      · rw [if_neg c3] at H
        have c3b0 : decide (x6_1 < (l1.length : Int)) = false := decide_eq_false c3
        clear c3
        have H' := Aside0.mk H
        clear H
        go_wp2
        repeat (go_quiet (fail); try go_wp2)
        go_loopg [5, 7] k1 (fun kq v5 v7 w' => ∃ (x5_2 : Bool) (x7_2 : Int), v5 = .bool x5_2 ∧ v7 = .int .i64 x7_2 ∧ Aside0 (foyerlaw05_mixed.l1 kq a0 l1 x4_1 x5_2 x7_2 = some (r1, r2)) ∧ Aside0 (kq ≤ k1) ∧ Drawn0 w w')
        case atStart => exact ⟨(false), (0), (by first | rfl | (simp; done) | (simp [*]; done)), (by first | rfl | (simp; done) | (simp [*]; done)), H', ⟨Nat.le_refl _⟩, by repeat (first | exact Drawn0.refl _ | apply Drawn0.step)⟩
        case round =>
          clear H'
          try clear c1
          try clear p1
          try clear q1
          try clear hx1
          try clear p2
          try clear c3
          try clear c3b0
          try clear c4
          try clear c5
          try clear c5b0
          try clear hx101_0
          try clear p101
          try clear p2
          try clear q101
          obtain ⟨x5_2, x7_2, rfl, rfl, HA, HK2, ⟨m2, rfl⟩⟩ := hrel
          cases gk with
          | zero => exact absurd HA.out (by simp [foyerlaw05_mixed.l1])
          | succ k2 =>
            have H := HA.out
            clear HA
            simp only [foyerlaw05_mixed.l1] at H
            have HC6 := Aside0.mk H
            clear H
            go_upto_region 6 with (fail)
            repeat (go_quiet (fail); go_upto_region 6 with (fail))
            go_cut [33] (fun v33 wc => ∃ (kq : Nat) (x33_5 : Bool), v33 = .bool x33_5 ∧ Aside0 (foyerlaw05_mixed.j2 kq a0 l1 x4_1 x5_2 x7_2 x33_5 = some (r1, r2)) ∧ Aside0 (kq ≤ k2) ∧ Drawn0 w wc)
            case first =>
              have H := HC6.out
              clear HC6
              by_cases c7 : x7_2 < (l1.length : Int)
              · rw [if_pos c7] at H
                have c7b0 : decide (x7_2 < (l1.length : Int)) = true := decide_eq_true c7
                clear c7
                (first | rw [c7b0] | (simp only [i64_w, i32_w]; rw [c7b0]) | skip)
                have H' := Aside0.mk H
                clear H
                go_wp2
                repeat (go_quiet (fail); try go_wp2)
                go_meet
                case rel => exact ⟨_, (!x4_1), (by first | rfl | (simp; done) | (simp [*]; done)), H', ⟨by have := HK1.out; have := HK2.out; first | omega | exact Nat.le_refl _⟩, by repeat (first | exact Drawn0.refl _ | apply Drawn0.step)⟩
              · rw [if_neg c7] at H
                have c7b0 : decide (x7_2 < (l1.length : Int)) = false := decide_eq_false c7
                clear c7
                (first | rw [c7b0] | (simp only [i64_w, i32_w]; rw [c7b0]) | skip)
                have H' := Aside0.mk H
                clear H
                go_wp2
                repeat (go_quiet (fail); try go_wp2)
                go_meet
                case rel => exact ⟨_, (false), (by first | rfl | (simp; done) | (simp [*]; done)), H', ⟨by have := HK1.out; have := HK2.out; first | omega | exact Nat.le_refl _⟩, by repeat (first | exact Drawn0.refl _ | apply Drawn0.step)⟩
            case rest =>
              clear HC6
              try clear c1
              try clear p1
              try clear q1
              try clear hx1
              try clear p2
              try clear c3
              try clear c3b0
              try clear c4
              try clear c5
              try clear c5b0
              try clear p6
              try clear c7
              try clear c7b0
              try clear hx101_0
              try clear p1
              try clear p101
              try clear p2
              try clear q1
              try clear q101
              obtain ⟨kq, x33_5, rfl, HA, HJ5, ⟨mc5, rfl⟩⟩ := hcut
              cases kq with
              | zero => exact absurd HA.out (by simp [foyerlaw05_mixed.j2])
              | succ kj5 =>
                have H := HA.out
                clear HA
                simp only [foyerlaw05_mixed.j2] at H
                by_cases c8 : x33_5 = true
                · subst c8
                  have H1 : (foyerlaw05_mixed.l2 kj5 a0 l1 x4_1 x5_2 x7_2 0) = some (r1, r2) := by rw [if_pos rfl] at H; exact H
                  clear H
                  have H := H1
                  clear H1
                  have HC9 := Aside0.mk H
                  clear H
                  go_upto_block 4 with (fail)
                  repeat (go_quiet (fail); go_upto_block 4 with (fail))
                  go_cut [8] (fun v8 wc => ∃ (kq : Nat) (x8_8 : Int), v8 = .int .i64 x8_8 ∧ Aside0 (foyerlaw05_mixed.j4 kq a0 l1 x4_1 x5_2 x7_2 x8_8 = some (r1, r2)) ∧ Aside0 (kq ≤ kj5) ∧ Drawn0 w wc)
                  case first =>
                    have H := HC9.out
                    clear HC9
                    have H' := Aside0.mk H
                    clear H
                    go_wp2
                    repeat (go_quiet (fail); try go_wp2)
                    go_loopg [8] kj5 (fun kq v8 w' => ∃ (x8_4 : Int), v8 = .int .i64 x8_4 ∧ Aside0 (foyerlaw05_mixed.l2 kq a0 l1 x4_1 x5_2 x7_2 x8_4 = some (r1, r2)) ∧ Aside0 (kq ≤ kj5) ∧ Drawn0 w w')
                    case atStart => exact ⟨(0), (by first | rfl | (simp; done) | (simp [*]; done)), H', ⟨Nat.le_refl _⟩, by repeat (first | exact Drawn0.refl _ | apply Drawn0.step)⟩
                    case round =>
                      clear H'
                      try clear c1
                      try clear p1
                      try clear q1
                      try clear hx1
                      try clear p2
                      try clear c3
                      try clear c3b0
                      try clear c4
                      try clear c5
                      try clear c5b0
                      try clear p6
                      try clear c7
                      try clear c7b0
                      try clear c8
                      try clear hx101_0
                      try clear p1
                      try clear p101
                      try clear p2
                      try clear p6
                      try clear q1
                      try clear q101
                      obtain ⟨x8_4, rfl, HA, HK4, ⟨m4, rfl⟩⟩ := hrel
                      cases gk with
                      | zero => exact absurd HA.out (by simp [foyerlaw05_mixed.l2])
                      | succ k4 =>
                        have H := HA.out
                        clear HA
                        simp only [foyerlaw05_mixed.l2] at H
                        by_cases c10 : x8_4 < (a0.size : Int)
                        · rw [if_pos c10] at H
                          have c10b0 : decide (x8_4 < (a0.size : Int)) = true := decide_eq_true c10
                          clear c10
                          (first | rw [c10b0] | (simp only [i64_w, i32_w]; rw [c10b0]) | skip)
                          by_cases c11 : 0 ≤ x8_4
                          · rw [if_pos c11] at H
                            have c11b0 : decide (0 ≤ x8_4) = true := decide_eq_true c11
                            clear c11
                            by_cases c13 : 0 ≤ x7_2
                            · rw [if_pos c13] at H
                              have c13b0 : decide (0 ≤ x7_2) = true := decide_eq_true c13
                              clear c13
                              by_cases c14 : x7_2 < (l1.length : Int)
                              · rw [if_pos c14] at H
                                have c14b0 : decide (x7_2 < (l1.length : Int)) = true := decide_eq_true c14
                                clear c14
                                by_cases c15 : x8_4 < ((rdOf ByteArray.empty l1 x7_2).size : Int)
                                · rw [if_pos c15] at H
                                  have c15b0 : decide (x8_4 < ((rdOf ByteArray.empty l1 x7_2).size : Int)) = true := decide_eq_true c15
                                  clear c15
                                  by_cases c17 : (bt a0 x8_4) = (bt (rdOf ByteArray.empty l1 x7_2) x8_4)
                                  · rw [if_pos c17] at H
                                    have c17b0 : ((bt a0 x8_4) == (bt (rdOf ByteArray.empty l1 x7_2) x8_4)) = true := beq_iff_eq.mpr c17
                                    have c17b1 : ((bt a0 x8_4) != (bt (rdOf ByteArray.empty l1 x7_2) x8_4)) = false := bne_eq_false_iff_eq.mpr c17
                                    clear c17
                                    have H' := Aside0.mk H
                                    clear H
                                    have p12 : 0 ≤ (x8_4 : Int) := of_decide_eq_true (by first | (with_reducible assumption) | assumption)
                                    have q12 : x8_4 < (a0.size : Int) := of_decide_eq_true (by first | (with_reducible assumption) | assumption)
                                    have hx12 := bt_at a0 x8_4
                                    replace p12 := eq_true p12
                                    replace q12 := eq_true q12
                                    have p102 : 0 ≤ (x7_2 : Int) := of_decide_eq_true (by first | (with_reducible assumption) | assumption)
                                    have q102 : x7_2 < (l1.length : Int) := of_decide_eq_true (by first | (with_reducible assumption) | assumption)
                                    obtain ⟨ad102, e102, hx102_0⟩ := Kd.at_string HR1.out x7_2 p102 q102
                                    cases e102
                                    replace p102 := eq_true p102
                                    replace q102 := eq_true q102
                                    have p16 : 0 ≤ (x8_4 : Int) := of_decide_eq_true (by first | (with_reducible assumption) | assumption)
                                    have q16 : x8_4 < ((rdOf ByteArray.empty l1 x7_2).size : Int) := of_decide_eq_true (by first | (with_reducible assumption) | assumption)
                                    have hx16 := bt_at (rdOf ByteArray.empty l1 x7_2) x8_4
                                    replace p16 := eq_true p16
                                    replace q16 := eq_true q16
                                    go_wp2
                                    repeat (go_quiet (fail); try go_wp2)
                                    go_roundg k4
                                    case measure => have := HK1.out; have := HK2.out; have := HJ5.out; have := HK4.out; omega
                                    case rel => exact ⟨(wrap64 (x8_4 + 1)), (by first | rfl | (simp; done) | (simp [*]; done)), H', ⟨by have := HK1.out; have := HK2.out; have := HJ5.out; have := HK4.out; omega⟩, by repeat (first | exact Drawn0.refl _ | apply Drawn0.step)⟩
                                  · rw [if_neg c17] at H
                                    have c17b0 : ((bt a0 x8_4) == (bt (rdOf ByteArray.empty l1 x7_2) x8_4)) = false := beq_eq_false_iff_ne.mpr c17
                                    have c17b1 : ((bt a0 x8_4) != (bt (rdOf ByteArray.empty l1 x7_2) x8_4)) = true := bne_iff_ne.mpr c17
                                    have H' := Aside0.mk H
                                    clear H
                                    have p12 : 0 ≤ (x8_4 : Int) := of_decide_eq_true (by first | (with_reducible assumption) | assumption)
                                    have q12 : x8_4 < (a0.size : Int) := of_decide_eq_true (by first | (with_reducible assumption) | assumption)
                                    have hx12 := bt_at a0 x8_4
                                    replace p12 := eq_true p12
                                    replace q12 := eq_true q12
                                    have p102 : 0 ≤ (x7_2 : Int) := of_decide_eq_true (by first | (with_reducible assumption) | assumption)
                                    have q102 : x7_2 < (l1.length : Int) := of_decide_eq_true (by first | (with_reducible assumption) | assumption)
                                    obtain ⟨ad102, e102, hx102_0⟩ := Kd.at_string HR1.out x7_2 p102 q102
                                    cases e102
                                    replace p102 := eq_true p102
                                    replace q102 := eq_true q102
                                    have p16 : 0 ≤ (x8_4 : Int) := of_decide_eq_true (by first | (with_reducible assumption) | assumption)
                                    have q16 : x8_4 < ((rdOf ByteArray.empty l1 x7_2).size : Int) := of_decide_eq_true (by first | (with_reducible assumption) | assumption)
                                    have hx16 := bt_at (rdOf ByteArray.empty l1 x7_2) x8_4
                                    replace p16 := eq_true p16
                                    replace q16 := eq_true q16
                                    go_wp2
                                    repeat (go_quiet (fail); try go_wp2)
                                    go_meet
                                    case rel => exact ⟨_, (x8_4), (by first | rfl | (simp; done) | (simp [*]; done)), H', ⟨by have := HK1.out; have := HK2.out; have := HJ5.out; have := HK4.out; first | omega | exact Nat.le_refl _⟩, by repeat (first | exact Drawn0.refl _ | apply Drawn0.step)⟩
                                · rw [if_neg c15] at H
                                  exact absurd H (by simp)
                              · rw [if_neg c14] at H
                                exact absurd H (by simp)
                            · rw [if_neg c13] at H
                              exact absurd H (by simp)
                          · rw [if_neg c11] at H
                            exact absurd H (by simp)
                        · rw [if_neg c10] at H
                          have c10b0 : decide (x8_4 < (a0.size : Int)) = false := decide_eq_false c10
                          clear c10
                          (first | rw [c10b0] | (simp only [i64_w, i32_w]; rw [c10b0]) | skip)
                          have H' := Aside0.mk H
                          clear H
                          go_wp2
                          repeat (go_quiet (fail); try go_wp2)
                          go_meet
                          case rel => exact ⟨_, (x8_4), (by first | rfl | (simp; done) | (simp [*]; done)), H', ⟨by have := HK1.out; have := HK2.out; have := HJ5.out; have := HK4.out; first | omega | exact Nat.le_refl _⟩, by repeat (first | exact Drawn0.refl _ | apply Drawn0.step)⟩
                  case rest =>
                    clear HC9
                    try clear c1
                    try clear p1
                    try clear q1
                    try clear hx1
                    try clear p2
                    try clear c3
                    try clear c3b0
                    try clear c4
                    try clear c5
                    try clear c5b0
                    try clear p6
                    try clear c7
                    try clear c7b0
                    try clear c8
                    try clear c10
                    try clear c10b0
                    try clear p10
                    try clear q10
                    try clear hx10
                    try clear c11
                    try clear c11b0
                    try clear p12
                    try clear q12
                    try clear hx12
                    try clear c13
                    try clear c13b0
                    try clear c14
                    try clear c14b0
                    try clear c15
                    try clear c15b0
                    try clear p16
                    try clear q16
                    try clear hx16
                    try clear c17
                    try clear c17b0
                    try clear c17b1
                    try clear hx101_0
                    try clear hx102_0
                    try clear p1
                    try clear p101
                    try clear p102
                    try clear p12
                    try clear p16
                    try clear p2
                    try clear p6
                    try clear q1
                    try clear q101
                    try clear q102
                    try clear q12
                    try clear q16
                    obtain ⟨kq, x8_8, rfl, HA, HJ8, ⟨mc8, rfl⟩⟩ := hcut
                    cases kq with
                    | zero => exact absurd HA.out (by simp [foyerlaw05_mixed.j4])
                    | succ kj8 =>
                      have H := HA.out
                      clear HA
                      simp only [foyerlaw05_mixed.j4] at H
                      have H' := Aside0.mk H
                      clear H
                      go_wp2
                      repeat (go_quiet (fail); try go_wp2)
                      go_loopg [5, 9] kj8 (fun kq v5 v9 w' => ∃ (x5_5 : Bool) (x9_5 : Int), v5 = .bool x5_5 ∧ v9 = .int .i64 x9_5 ∧ Aside0 (foyerlaw05_mixed.l3 kq a0 l1 x4_1 x5_5 x7_2 x8_8 x9_5 = some (r1, r2)) ∧ Aside0 (kq ≤ kj8) ∧ Drawn0 w w')
                      case atStart => exact ⟨(x5_2), (0), (by first | rfl | (simp; done) | (simp [*]; done)), (by first | rfl | (simp; done) | (simp [*]; done)), H', ⟨Nat.le_refl _⟩, by repeat (first | exact Drawn0.refl _ | apply Drawn0.step)⟩
                      case round =>
                        clear H'
                        try clear c1
                        try clear p1
                        try clear q1
                        try clear hx1
                        try clear p2
                        try clear c3
                        try clear c3b0
                        try clear c4
                        try clear c5
                        try clear c5b0
                        try clear p6
                        try clear c7
                        try clear c7b0
                        try clear c8
                        try clear c10
                        try clear c10b0
                        try clear p10
                        try clear q10
                        try clear hx10
                        try clear c11
                        try clear c11b0
                        try clear p12
                        try clear q12
                        try clear hx12
                        try clear c13
                        try clear c13b0
                        try clear c14
                        try clear c14b0
                        try clear c15
                        try clear c15b0
                        try clear p16
                        try clear q16
                        try clear hx16
                        try clear c17
                        try clear c17b0
                        try clear c17b1
                        try clear hx101_0
                        try clear hx102_0
                        try clear p1
                        try clear p10
                        try clear p101
                        try clear p102
                        try clear p12
                        try clear p16
                        try clear p2
                        try clear p6
                        try clear q1
                        try clear q10
                        try clear q101
                        try clear q102
                        try clear q12
                        try clear q16
                        obtain ⟨x5_5, x9_5, rfl, rfl, HA, HK5, ⟨m5, rfl⟩⟩ := hrel
                        cases gk with
                        | zero => exact absurd HA.out (by simp [foyerlaw05_mixed.l3])
                        | succ k5 =>
                          have H := HA.out
                          clear HA
                          simp only [foyerlaw05_mixed.l3] at H
                          by_cases c18 : x9_5 < (l1.length : Int)
                          · rw [if_pos c18] at H
                            have c18b0 : decide (x9_5 < (l1.length : Int)) = true := decide_eq_true c18
                            clear c18
                            have H' := Aside0.mk H
                            clear H
                            go_wp2
                            repeat (go_quiet (fail); try go_wp2)
                            go_loopg [10] k5 (fun kq v10 w' => ∃ (x10_6 : Int), v10 = .int .i64 x10_6 ∧ Aside0 (foyerlaw05_mixed.l4 kq a0 l1 x4_1 x5_5 x7_2 x8_8 x9_5 x10_6 = some (r1, r2)) ∧ Aside0 (kq ≤ k5) ∧ Drawn0 w w')
                            case atStart => exact ⟨((a0.size : Int)), (by first | rfl | (simp; done) | (simp [*]; done)), H', ⟨Nat.le_refl _⟩, by repeat (first | exact Drawn0.refl _ | apply Drawn0.step)⟩
                            case round =>
                              clear H'
                              try clear c1
                              try clear p1
                              try clear q1
                              try clear hx1
                              try clear p2
                              try clear c3
                              try clear c3b0
                              try clear c4
                              try clear c5
                              try clear c5b0
                              try clear p6
                              try clear c7
                              try clear c7b0
                              try clear c8
                              try clear c10
                              try clear c10b0
                              try clear p10
                              try clear q10
                              try clear hx10
                              try clear c11
                              try clear c11b0
                              try clear p12
                              try clear q12
                              try clear hx12
                              try clear c13
                              try clear c13b0
                              try clear c14
                              try clear c14b0
                              try clear c15
                              try clear c15b0
                              try clear p16
                              try clear q16
                              try clear hx16
                              try clear c17
                              try clear c17b0
                              try clear c17b1
                              try clear c18
                              try clear c18b0
                              try clear hx101_0
                              try clear hx102_0
                              try clear p1
                              try clear p10
                              try clear p101
                              try clear p102
                              try clear p12
                              try clear p16
                              try clear p2
                              try clear p6
                              try clear q1
                              try clear q10
                              try clear q101
                              try clear q102
                              try clear q12
                              try clear q16
                              obtain ⟨x10_6, rfl, HA, HK6, ⟨m6, rfl⟩⟩ := hrel
                              cases gk with
                              | zero => exact absurd HA.out (by simp [foyerlaw05_mixed.l4])
                              | succ k6 =>
                                have H := HA.out
                                clear HA
                                simp only [foyerlaw05_mixed.l4] at H
                                by_cases c19 : x10_6 > 0
                                · rw [if_pos c19] at H
                                  have c19b0 : decide (0 < x10_6) = true := decide_eq_true c19
                                  clear c19
                                  obtain ⟨ji20, hji20⟩ : ∃ j_ : Int, (wrap64 (x10_6 - 1)) = j_ := ⟨_, rfl⟩
                                  replace H : (if 0 ≤ (ji20) then (if (ji20) < (a0.size : Int) then (if 0 ≤ x9_5 then (if x9_5 < (l1.length : Int) then (if (ji20) < ((rdOf ByteArray.empty l1 x9_5).size : Int) then (if (bt a0 (ji20)) = (bt (rdOf ByteArray.empty l1 x9_5) (ji20)) then (foyerlaw05_mixed.l4 k6 a0 l1 x4_1 x5_5 x7_2 x8_8 x9_5 ji20) else (if x5_5 = true then (foyerlaw05_mixed.l3 k6 a0 l1 x4_1 true x7_2 x8_8 (wrap64 (x9_5 + 1))) else (foyerlaw05_mixed.l3 k6 a0 l1 x4_1 (decide (x10_6 ≤ x8_8)) x7_2 x8_8 (wrap64 (x9_5 + 1))))) else (none)) else (none)) else (none)) else (none)) else (none)) = some (r1, r2) := by first | (rw [hji20] at H; exact H) | (simp only [hji20] at H ⊢; exact H)
                                  have hji20w : (IntKind.i64.wrap (x10_6 - 1)) = ji20 := (i64_w _).trans hji20
                                  by_cases c21 : 0 ≤ (ji20)
                                  · rw [if_pos c21] at H
                                    have c21b0 : decide (0 ≤ (ji20)) = true := decide_eq_true c21
                                    clear c21
                                    by_cases c22 : (ji20) < (a0.size : Int)
                                    · rw [if_pos c22] at H
                                      have c22b0 : decide ((ji20) < (a0.size : Int)) = true := decide_eq_true c22
                                      clear c22
                                      by_cases c24 : 0 ≤ x9_5
                                      · rw [if_pos c24] at H
                                        have c24b0 : decide (0 ≤ x9_5) = true := decide_eq_true c24
                                        clear c24
                                        by_cases c25 : x9_5 < (l1.length : Int)
                                        · rw [if_pos c25] at H
                                          have c25b0 : decide (x9_5 < (l1.length : Int)) = true := decide_eq_true c25
                                          clear c25
                                          by_cases c26 : (ji20) < ((rdOf ByteArray.empty l1 x9_5).size : Int)
                                          · rw [if_pos c26] at H
                                            have c26b0 : decide ((ji20) < ((rdOf ByteArray.empty l1 x9_5).size : Int)) = true := decide_eq_true c26
                                            clear c26
                                            by_cases c28 : (bt a0 (ji20)) = (bt (rdOf ByteArray.empty l1 x9_5) (ji20))
                                            · rw [if_pos c28] at H
                                              have c28b0 : ((bt a0 (ji20)) == (bt (rdOf ByteArray.empty l1 x9_5) (ji20))) = true := beq_iff_eq.mpr c28
                                              have c28b1 : ((bt a0 (ji20)) != (bt (rdOf ByteArray.empty l1 x9_5) (ji20))) = false := bne_eq_false_iff_eq.mpr c28
                                              clear c28
                                              have H' := Aside0.mk H
                                              clear H
                                              have p23 : 0 ≤ ((ji20) : Int) := of_decide_eq_true (by first | (with_reducible assumption) | assumption)
                                              have q23 : (ji20) < (a0.size : Int) := of_decide_eq_true (by first | (with_reducible assumption) | assumption)
                                              have hx23 := bt_at a0 (ji20)
                                              replace p23 := eq_true p23
                                              replace q23 := eq_true q23
                                              have p103 : 0 ≤ (x9_5 : Int) := of_decide_eq_true (by first | (with_reducible assumption) | assumption)
                                              have q103 : x9_5 < (l1.length : Int) := of_decide_eq_true (by first | (with_reducible assumption) | assumption)
                                              obtain ⟨ad103, e103, hx103_0⟩ := Kd.at_string HR1.out x9_5 p103 q103
                                              cases e103
                                              replace p103 := eq_true p103
                                              replace q103 := eq_true q103
                                              have p27 : 0 ≤ ((ji20) : Int) := of_decide_eq_true (by first | (with_reducible assumption) | assumption)
                                              have q27 : (ji20) < ((rdOf ByteArray.empty l1 x9_5).size : Int) := of_decide_eq_true (by first | (with_reducible assumption) | assumption)
                                              have hx27 := bt_at (rdOf ByteArray.empty l1 x9_5) (ji20)
                                              replace p27 := eq_true p27
                                              replace q27 := eq_true q27
                                              go_wp2
                                              repeat (go_quiet (fail); try go_wp2)
                                              go_roundg k6
                                              case measure => have := HK1.out; have := HK2.out; have := HJ5.out; have := HJ8.out; have := HK5.out; have := HK6.out; omega
                                              case rel => exact ⟨(ji20), (by first | rfl | (simp; done) | (simp only [← hji20] <;> (first | rfl | simp)) | (simp [*]; done)), H', ⟨by have := HK1.out; have := HK2.out; have := HJ5.out; have := HJ8.out; have := HK5.out; have := HK6.out; omega⟩, by repeat (first | exact Drawn0.refl _ | apply Drawn0.step)⟩
                                            · rw [if_neg c28] at H
                                              have c28b0 : ((bt a0 (ji20)) == (bt (rdOf ByteArray.empty l1 x9_5) (ji20))) = false := beq_eq_false_iff_ne.mpr c28
                                              have c28b1 : ((bt a0 (ji20)) != (bt (rdOf ByteArray.empty l1 x9_5) (ji20))) = true := bne_iff_ne.mpr c28
                                              by_cases c29 : x5_5 = true
                                              · subst c29
                                                have H1 : (foyerlaw05_mixed.l3 k6 a0 l1 x4_1 true x7_2 x8_8 (wrap64 (x9_5 + 1))) = some (r1, r2) := by rw [if_pos rfl] at H; exact H
                                                clear H
                                                have H := H1
                                                clear H1
                                                have H' := Aside0.mk H
                                                clear H
                                                have p23 : 0 ≤ ((ji20) : Int) := of_decide_eq_true (by first | (with_reducible assumption) | assumption)
                                                have q23 : (ji20) < (a0.size : Int) := of_decide_eq_true (by first | (with_reducible assumption) | assumption)
                                                have hx23 := bt_at a0 (ji20)
                                                replace p23 := eq_true p23
                                                replace q23 := eq_true q23
                                                have p103 : 0 ≤ (x9_5 : Int) := of_decide_eq_true (by first | (with_reducible assumption) | assumption)
                                                have q103 : x9_5 < (l1.length : Int) := of_decide_eq_true (by first | (with_reducible assumption) | assumption)
                                                obtain ⟨ad103, e103, hx103_0⟩ := Kd.at_string HR1.out x9_5 p103 q103
                                                cases e103
                                                replace p103 := eq_true p103
                                                replace q103 := eq_true q103
                                                have p27 : 0 ≤ ((ji20) : Int) := of_decide_eq_true (by first | (with_reducible assumption) | assumption)
                                                have q27 : (ji20) < ((rdOf ByteArray.empty l1 x9_5).size : Int) := of_decide_eq_true (by first | (with_reducible assumption) | assumption)
                                                have hx27 := bt_at (rdOf ByteArray.empty l1 x9_5) (ji20)
                                                replace p27 := eq_true p27
                                                replace q27 := eq_true q27
                                                go_wp2
                                                repeat (go_quiet (fail); try go_wp2)
                                                go_roundg k6
                                                case measure => have := HK1.out; have := HK2.out; have := HJ5.out; have := HJ8.out; have := HK5.out; have := HK6.out; omega
                                                case rel => exact ⟨(true), (wrap64 (x9_5 + 1)), (by first | rfl | (simp; done) | (simp [*]; done)), (by first | rfl | (simp; done) | (simp [*]; done)), H', ⟨by have := HK1.out; have := HK2.out; have := HJ5.out; have := HJ8.out; have := HK5.out; have := HK6.out; omega⟩, by repeat (first | exact Drawn0.refl _ | apply Drawn0.step)⟩
                                              · replace c29 := Bool.eq_false_iff.mpr c29
                                                subst c29
                                                have H1 : (foyerlaw05_mixed.l3 k6 a0 l1 x4_1 (decide (x10_6 ≤ x8_8)) x7_2 x8_8 (wrap64 (x9_5 + 1))) = some (r1, r2) := by rw [if_neg (show ¬ (false = true) by decide)] at H; exact H
                                                clear H
                                                have H := H1
                                                clear H1
                                                have H' := Aside0.mk H
                                                clear H
                                                have p23 : 0 ≤ ((ji20) : Int) := of_decide_eq_true (by first | (with_reducible assumption) | assumption)
                                                have q23 : (ji20) < (a0.size : Int) := of_decide_eq_true (by first | (with_reducible assumption) | assumption)
                                                have hx23 := bt_at a0 (ji20)
                                                replace p23 := eq_true p23
                                                replace q23 := eq_true q23
                                                have p103 : 0 ≤ (x9_5 : Int) := of_decide_eq_true (by first | (with_reducible assumption) | assumption)
                                                have q103 : x9_5 < (l1.length : Int) := of_decide_eq_true (by first | (with_reducible assumption) | assumption)
                                                obtain ⟨ad103, e103, hx103_0⟩ := Kd.at_string HR1.out x9_5 p103 q103
                                                cases e103
                                                replace p103 := eq_true p103
                                                replace q103 := eq_true q103
                                                have p27 : 0 ≤ ((ji20) : Int) := of_decide_eq_true (by first | (with_reducible assumption) | assumption)
                                                have q27 : (ji20) < ((rdOf ByteArray.empty l1 x9_5).size : Int) := of_decide_eq_true (by first | (with_reducible assumption) | assumption)
                                                have hx27 := bt_at (rdOf ByteArray.empty l1 x9_5) (ji20)
                                                replace p27 := eq_true p27
                                                replace q27 := eq_true q27
                                                go_wp2
                                                repeat (go_quiet (fail); try go_wp2)
                                                go_roundg k6
                                                case measure => have := HK1.out; have := HK2.out; have := HJ5.out; have := HJ8.out; have := HK5.out; have := HK6.out; omega
                                                case rel => exact ⟨(decide (x10_6 ≤ x8_8)), (wrap64 (x9_5 + 1)), (by first | rfl | (simp; done) | (simp [*]; done)), (by first | rfl | (simp; done) | (simp [*]; done)), H', ⟨by have := HK1.out; have := HK2.out; have := HJ5.out; have := HJ8.out; have := HK5.out; have := HK6.out; omega⟩, by repeat (first | exact Drawn0.refl _ | apply Drawn0.step)⟩
                                          · rw [if_neg c26] at H
                                            exact absurd H (by simp)
                                        · rw [if_neg c25] at H
                                          exact absurd H (by simp)
                                      · rw [if_neg c24] at H
                                        exact absurd H (by simp)
                                    · rw [if_neg c22] at H
                                      exact absurd H (by simp)
                                  · rw [if_neg c21] at H
                                    exact absurd H (by simp)
                                · rw [if_neg c19] at H
                                  have c19b0 : decide (0 < x10_6) = false := decide_eq_false c19
                                  clear c19
                                  by_cases c30 : x5_5 = true
                                  · subst c30
                                    have H1 : (foyerlaw05_mixed.l3 k6 a0 l1 x4_1 true x7_2 x8_8 (wrap64 (x9_5 + 1))) = some (r1, r2) := by rw [if_pos rfl] at H; exact H
                                    clear H
                                    have H := H1
                                    clear H1
                                    have H' := Aside0.mk H
                                    clear H
                                    go_wp2
                                    repeat (go_quiet (fail); try go_wp2)
                                    go_roundg k6
                                    case measure => have := HK1.out; have := HK2.out; have := HJ5.out; have := HJ8.out; have := HK5.out; have := HK6.out; omega
                                    case rel => exact ⟨(true), (wrap64 (x9_5 + 1)), (by first | rfl | (simp; done) | (simp [*]; done)), (by first | rfl | (simp; done) | (simp [*]; done)), H', ⟨by have := HK1.out; have := HK2.out; have := HJ5.out; have := HJ8.out; have := HK5.out; have := HK6.out; omega⟩, by repeat (first | exact Drawn0.refl _ | apply Drawn0.step)⟩
                                  · replace c30 := Bool.eq_false_iff.mpr c30
                                    subst c30
                                    have H1 : (foyerlaw05_mixed.l3 k6 a0 l1 x4_1 (decide (x10_6 ≤ x8_8)) x7_2 x8_8 (wrap64 (x9_5 + 1))) = some (r1, r2) := by rw [if_neg (show ¬ (false = true) by decide)] at H; exact H
                                    clear H
                                    have H := H1
                                    clear H1
                                    have H' := Aside0.mk H
                                    clear H
                                    go_wp2
                                    repeat (go_quiet (fail); try go_wp2)
                                    go_roundg k6
                                    case measure => have := HK1.out; have := HK2.out; have := HJ5.out; have := HJ8.out; have := HK5.out; have := HK6.out; omega
                                    case rel => exact ⟨(decide (x10_6 ≤ x8_8)), (wrap64 (x9_5 + 1)), (by first | rfl | (simp; done) | (simp [*]; done)), (by first | rfl | (simp; done) | (simp [*]; done)), H', ⟨by have := HK1.out; have := HK2.out; have := HJ5.out; have := HJ8.out; have := HK5.out; have := HK6.out; omega⟩, by repeat (first | exact Drawn0.refl _ | apply Drawn0.step)⟩
                          · rw [if_neg c18] at H
                            have c18b0 : decide (x9_5 < (l1.length : Int)) = false := decide_eq_false c18
                            clear c18
                            have H' := Aside0.mk H
                            clear H
                            go_wp2
                            repeat (go_quiet (fail); try go_wp2)
                            go_roundg k5
                            case measure => have := HK1.out; have := HK2.out; have := HJ5.out; have := HJ8.out; have := HK5.out; omega
                            case rel => exact ⟨(x5_5), (wrap64 (x7_2 + 1)), (by first | rfl | (simp; done) | (simp [*]; done)), (by first | rfl | (simp; done) | (simp [*]; done)), H', ⟨by have := HK1.out; have := HK2.out; have := HJ5.out; have := HJ8.out; have := HK5.out; omega⟩, by repeat (first | exact Drawn0.refl _ | apply Drawn0.step)⟩
                · replace c8 := Bool.eq_false_iff.mpr c8
                  subst c8
                  have H1 : (some (x4_1, x5_2)) = some (r1, r2) := by rw [if_neg (show ¬ (false = true) by decide)] at H; exact H
                  clear H
                  have H := H1
                  clear H1
                  simp only [Option.some.injEq, Prod.mk.injEq] at H
                  obtain ⟨rfl, rfl⟩ := H
                  go_wp2
                  repeat (go_quiet (fail); try go_wp2)
                  go_ret2
                  exact ⟨by first | rfl | (simp; done) | (simp [*]; done), by repeat (first | exact Drawn0.refl _ | apply Drawn0.step)⟩

end Go.Proofs.Ytknibnbepmdapaa.PMix
