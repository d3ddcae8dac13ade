/-
FateReads: the walk of its body.
-/
import Derived.Test.YtknibnbepmdapaaIa
namespace Go.Proofs.Ytknibnbepmdapaa
open Go.RowKit Go.Shelf Go.Proofs.YtknibnbepmdapaaW.PrintWords
attribute [local go_sem] Oper.semAt_some

set_option maxRecDepth 100000 in
set_option maxHeartbeats 1000000 in
theorem fateReads_in (A : Option Addr) (c0 : Nat) (cs : List Int) (n : Int) (w : World) (hr : Kd.C (Kd.int .u8) w A cs.length cs) (hc0 : cs.length ≤ c0) (hbyte : Bytes cs) :
    CallsIn Fence.wide 9 Try.prog 7 #[.slice A cs.length c0, .int .i64 n] w fun e w' => e = .returned (.bool true) ∧ Below w.heap.size w w' := by
  have hF : ∀ f, Fence.wide.fn f := fun _ => trivial
  refine callsIn_of_wp Try.func7 rfl (hF _) ?_ rfl
  simp only [Try.ntmps7, List.size_toArray, List.length_cons, List.length_nil, Nat.reduceAdd, Nat.reduceSub, Array.replicate_succ, Array.replicate_zero, List.push_toArray, List.append_toArray, List.nil_append, List.cons_append]
  have i0 : ∀ w, (Instr.index 44 (.agg #[.int .i64 n, .int .i64 (n.tmod 40)]) (.int .i64 0)).run Try.prog w = .ok (.int .i64 n) w := fun w => rfl
  have i1 : ∀ w, (Instr.index 44 (.agg #[.int .i64 n, .int .i64 (n.tmod 40)]) (.int .i64 1)).run Try.prog w = .ok (.int .i64 (n.tmod 40)) w := fun w => rfl
  gi_wp2
  gi_loopw [11] (fun s wr => ∃ i : Nat, i ≤ 2 ∧ s = .int .i64 (i : Int) ∧ Below w.heap.size w wr)
    (fun s _ => 2 - (intOf s).toNat)
  case atStart => exact ⟨0, by decide, rfl, Below.refl _ _⟩
  case round =>
    obtain ⟨i, hi, rfl, hbW⟩ := hrel
    rcases (by omega : i = 0 ∨ i = 1 ∨ i = 2) with rfl | rfl | rfl
    · gi_wp2_with fail
      refine (callsIn_wide.2 (read_calls A c0 cs _ wr (Kd.C_below hr hbW) hc0 hbyte)).mono ?_
      rintro e w1 ⟨v1, rfl, hR1, hb1⟩
      have hbw1 := below_then hbW hbW.size hb1
      gi_wp2_with fail
      refine (callsIn_wide.2 (readRef_calls A c0 cs _ w1 (Kd.C_below hr hbw1) hbyte)).mono ?_
      rintro e w2 ⟨v2, rfl, hR2, hb2⟩
      generalize fateRead cs _ = F at *
      obtain ⟨C, t, a⟩ := F
      dsimp only at hR1 hR2 ⊢
      obtain ⟨A1, c1, rfl, hc1, hC1⟩ := Kd.R_reads hR1
      obtain ⟨A2, c2, rfl, hc2, hC2⟩ := Kd.R_reads hR2
      have hbw2 := below_then hbw1 hbw1.size hb2
      gi_wp2_with fail
      refine (callsIn_wide.2 (same_calls A1 c1 A2 c2 C t a w2 (Kd.C_below hC1 hb2) hc1 hC2 hc2)).mono ?_
      rintro e w3 ⟨rfl, hb3⟩
      have hbw3 := below_then hbw2 hbw2.size hb3
      gi_wp2_with fail
      refine (callsIn_wide.2 (whole_calls _ w3)).mono ?_
      rintro e w4 ⟨v4, rfl, hR4, hb4⟩
      have hbw4 := below_then hbw3 hbw3.size hb4
      gi_wp2_with fail
      refine (callsIn_wide.2 (wholeRef_calls _ w4)).mono ?_
      rintro e w5 ⟨v5, rfl, hR5, hb5⟩
      have hbw5 := below_then hbw4 hbw4.size hb5
      generalize wholeOf _ = D at *
      dsimp only at hR4 hR5 ⊢
      obtain ⟨A4, c4, rfl, hc4, hC4⟩ := Kd.R_reads hR4
      obtain ⟨A5, c5, rfl, hc5, hC5⟩ := Kd.R_reads hR5
      gi_wp2_with fail
      refine (callsIn_wide.2 (same_calls A4 c4 A5 c5 D (-1) 0 w5 (Kd.C_below hC4 hb5) hc4 hC5 hc5)).mono ?_
      rintro e w6 ⟨rfl, hb6⟩
      have hbw6 := below_then hbw5 hbw5.size hb6
      gi_wp2
      go_roundw
      case rel => exact ⟨1, by decide, rfl, hbw6⟩
      case measure => simp [intOf]
    · gi_wp2_with fail
      refine (callsIn_wide.2 (read_calls A c0 cs _ wr (Kd.C_below hr hbW) hc0 hbyte)).mono ?_
      rintro e w1 ⟨v1, rfl, hR1, hb1⟩
      have hbw1 := below_then hbW hbW.size hb1
      gi_wp2_with fail
      refine (callsIn_wide.2 (readRef_calls A c0 cs _ w1 (Kd.C_below hr hbw1) hbyte)).mono ?_
      rintro e w2 ⟨v2, rfl, hR2, hb2⟩
      generalize fateRead cs _ = F at *
      obtain ⟨C, t, a⟩ := F
      dsimp only at hR1 hR2 ⊢
      obtain ⟨A1, c1, rfl, hc1, hC1⟩ := Kd.R_reads hR1
      obtain ⟨A2, c2, rfl, hc2, hC2⟩ := Kd.R_reads hR2
      have hbw2 := below_then hbw1 hbw1.size hb2
      gi_wp2_with fail
      refine (callsIn_wide.2 (same_calls A1 c1 A2 c2 C t a w2 (Kd.C_below hC1 hb2) hc1 hC2 hc2)).mono ?_
      rintro e w3 ⟨rfl, hb3⟩
      have hbw3 := below_then hbw2 hbw2.size hb3
      gi_wp2_with fail
      refine (callsIn_wide.2 (whole_calls _ w3)).mono ?_
      rintro e w4 ⟨v4, rfl, hR4, hb4⟩
      have hbw4 := below_then hbw3 hbw3.size hb4
      gi_wp2_with fail
      refine (callsIn_wide.2 (wholeRef_calls _ w4)).mono ?_
      rintro e w5 ⟨v5, rfl, hR5, hb5⟩
      have hbw5 := below_then hbw4 hbw4.size hb5
      generalize wholeOf _ = D at *
      dsimp only at hR4 hR5 ⊢
      obtain ⟨A4, c4, rfl, hc4, hC4⟩ := Kd.R_reads hR4
      obtain ⟨A5, c5, rfl, hc5, hC5⟩ := Kd.R_reads hR5
      gi_wp2_with fail
      refine (callsIn_wide.2 (same_calls A4 c4 A5 c5 D (-1) 0 w5 (Kd.C_below hC4 hb5) hc4 hC5 hc5)).mono ?_
      rintro e w6 ⟨rfl, hb6⟩
      have hbw6 := below_then hbw5 hbw5.size hb6
      gi_wp2
      go_roundw
      case rel => exact ⟨2, by decide, rfl, hbw6⟩
      case measure => simp [intOf]
    · gi_wp2_with fail
      refine (callsIn_wide.2 (works_calls _)).mono ?_
      rintro e w1 ⟨rfl, hb1⟩
      gi_wp2
      exact ⟨rfl, _, results_tmp rfl _ _ _, rfl, below_then hbW hbW.size hb1⟩
end Go.Proofs.Ytknibnbepmdapaa
