/-
fate.may: its contract.
-/
import Derived.Test.YtknibnbepmdapaaFa
import Derived.WalkLawsBesides
import Derived.WalkSpells
namespace Go.Proofs.Ytknibnbepmdapaa
open Go.RowKit Go.Shelf Go.Proofs.YtknibnbepmdapaaW.PrintWords

theorem ret_bool {a b : Bool} (h : a = b) : Ending.returned (.bool a) = .returned (.bool b) := by rw [h]

def mayB (l : List Bool) (torn at_ : Int) : Bool :=
  if torn = -1 then at_ == 0 else decide (0 ≤ torn ∧ torn < l.length ∧ l.getD torn.toNat false = true ∧ 0 ≤ at_ ∧ at_ ≤ 256)

theorem bool_at {w : World} {A : Option Addr} {n : Nat} {l : List Bool} (h : Kd.C Kd.bool w A n l) {k : Nat} (hk : k < n) :
    ∃ ad, A = some ad ∧ ad.block < w.heap.size ∧ w.cell? (ad.add k) = some (.bool (l.getD k false)) := by
  obtain ⟨ad, c, hA, hl, hK, hcell⟩ := Kd.C_get h false (k : Int) (by omega) (by omega)
  have hcv : c = [.bool (l.getD k false)] := by have := hK; rw [Int.toNat_natCast] at this; exact this
  subst hcv
  have h0 := hcell 0 _ rfl
  rw [Int.toNat_natCast, show k * Kd.bool.sz + 0 = k from by show k * 1 + 0 = k; omega] at h0
  exact ⟨ad, hA, by have := World.block_lt_of_cell? _ _ h0; rwa [add_block] at this, h0⟩

theorem may_calls (A : Option Addr) (c0 : Nat) (l : List Bool) (torn at_ : Int) (w : World) (hr : Kd.C Kd.bool w A l.length l) :
    Calls Try.prog 45 #[.agg #[.slice A l.length c0, .int .i64 torn, .int .i64 at_]] w fun e w' => e = .returned (.bool (mayB l torn at_)) ∧ Below w.heap.size w w' := by
  have hmax := Kd.C_max hr
  have hB := Lib.hid ((Below.refl w.heap.size w).alloc (Nat.le_refl _) (.cells #[.slice A l.length c0, .int .i64 torn, .int .i64 at_] 24))
  by_cases h1 : torn = -1
  · subst h1
    clear hr
    go_enter Try.func45, Try.ntmps45
    go_wp2
    go_ret
    exact ⟨ret_bool (by simp [mayB]), hB.out⟩
  · have h1' : (torn == (-1 : Int)) = false := by simpa using h1
    by_cases h2 : torn < 0
    · clear hr
      go_enter Try.func45, Try.ntmps45
      go_wp2
      go_ret
      exact ⟨ret_bool (by unfold mayB; rw [if_neg h1]; symm; rw [decide_eq_false_iff_not]; omega), hB.out⟩
    · obtain ⟨n, rfl⟩ := Int.eq_ofNat_of_zero_le (show 0 ≤ torn by omega)
      by_cases h3 : n < l.length
      · obtain ⟨ad, rfl, hlt, hcell⟩ := bool_at hr h3
        have hc' : (w.alloc (.cells #[.slice (some ad) l.length c0, .int .i64 n, .int .i64 at_] 24)).cell? (ad.add n) = some (.bool (l.getD n false)) :=
          (World.cell?_alloc_lt w _ _ (by rw [add_block]; exact hlt)).trans hcell
        clear hr hcell
        cases hb : l.getD n false with
        | false =>
          rw [hb] at hc'
          have hb := Lib.hid hb
          go_enter Try.func45, Try.ntmps45
          go_wp2
          go_ret
          exact ⟨ret_bool (by unfold mayB; rw [if_neg h1]; symm; rw [decide_eq_false_iff_not, Int.toNat_natCast, hb.out]; simp), hB.out⟩
        | true =>
          rw [hb] at hc'
          have hb := Lib.hid hb
          by_cases h4 : 0 ≤ at_
          · go_enter Try.func45, Try.ntmps45
            go_wp2
            go_ret
            exact ⟨ret_bool (by unfold mayB; rw [if_neg h1, Int.toNat_natCast, hb.out]; simp [h4, h3]), hB.out⟩
          · go_enter Try.func45, Try.ntmps45
            go_wp2
            go_ret
            exact ⟨ret_bool (by unfold mayB; rw [if_neg h1]; symm; rw [decide_eq_false_iff_not]; omega), hB.out⟩
      · clear hr
        go_enter Try.func45, Try.ntmps45
        go_wp2
        go_ret
        exact ⟨ret_bool (by unfold mayB; rw [if_neg h1]; symm; rw [decide_eq_false_iff_not]; omega), hB.out⟩
end Go.Proofs.Ytknibnbepmdapaa
