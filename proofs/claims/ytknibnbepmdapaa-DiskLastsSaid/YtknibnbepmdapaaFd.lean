/-
fate.Put: its contract, whatever the fate.
-/
import Derived.Test.YtknibnbepmdapaaFc
namespace Go.Proofs.Ytknibnbepmdapaa
open Go.RowKit Go.Shelf Go.Proofs.YtknibnbepmdapaaW.PrintWords
attribute [local go_sem] Oper.semAt_some

set_option maxRecDepth 100000 in
set_option maxHeartbeats 400000 in
theorem put_not (A : Option Addr) (c0 : Nat) (l : List Bool) (torn at_ : Int) (w : World) (hr : Kd.C Kd.bool w A l.length l)
    (hmay : mayB l torn at_ = false) :
    CallsIn Fence.wide 9 Try.prog 13 #[.agg #[.slice A l.length c0, .int .i64 torn, .int .i64 at_]] w (PutPost w (fatePut l torn at_)) := by
  have hF : ∀ f, Fence.wide.fn f := fun _ => trivial
  refine callsIn_of_wp_marks Try.func13 rfl (hF _) ?_ rfl
  simp only [Try.ntmps13, List.size_toArray, List.length_cons, List.length_nil, Nat.reduceAdd, Nat.reduceSub, Array.replicate_succ, Array.replicate_zero, List.push_toArray, List.append_toArray, List.nil_append, List.cons_append]
  have hm0 := may_calls A c0 l torn at_ (w.alloc (.cells #[.slice A l.length c0, .int .i64 torn, .int .i64 at_] 24)) (Kd.C_alloc hr _)
  rw [hmay] at hm0
  have hfin : Hid (fatePut l torn at_ = ([], 2)) := Lib.hid (by unfold fatePut; rw [if_pos hmay])
  clear hmay
  gi_wp2_with fail
  refine (callsIn_wide.2 hm0).mono ?_
  rintro e w1 ⟨rfl, hb1⟩
  gi_wp2
  refine ⟨_, results_tmp2 rfl _ _ _, ?_⟩
  rw [hfin.out]
  exact ⟨.slice none 0 0, rfl, Kd.R_nil _ _ _ _ _, below_then (below_alloc (Below.refl _ _) _) (by simp) hb1⟩

set_option maxRecDepth 100000 in
set_option maxHeartbeats 400000 in
theorem put_long (A : Option Addr) (c0 : Nat) (l : List Bool) (torn at_ : Int) (w : World) (hr : Kd.C Kd.bool w A l.length l)
    (hmay : mayB l torn at_ = true) (hlen : 4096 < l.length) :
    CallsIn Fence.wide 9 Try.prog 13 #[.agg #[.slice A l.length c0, .int .i64 torn, .int .i64 at_]] w (PutPost w (fatePut l torn at_)) := by
  have hF : ∀ f, Fence.wide.fn f := fun _ => trivial
  have hmax := Kd.C_max hr
  refine callsIn_of_wp_marks Try.func13 rfl (hF _) ?_ rfl
  simp only [Try.ntmps13, List.size_toArray, List.length_cons, List.length_nil, Nat.reduceAdd, Nat.reduceSub, Array.replicate_succ, Array.replicate_zero, List.push_toArray, List.append_toArray, List.nil_append, List.cons_append]
  have hm0 := may_calls A c0 l torn at_ (w.alloc (.cells #[.slice A l.length c0, .int .i64 torn, .int .i64 at_] 24)) (Kd.C_alloc hr _)
  rw [hmay] at hm0
  have hfin : Hid (fatePut l torn at_ = ([], 4)) := Lib.hid (by unfold fatePut; rw [if_neg (by rw [hmay]; simp), if_pos hlen])
  clear hmay
  gi_wp2_with fail
  refine (callsIn_wide.2 hm0).mono ?_
  rintro e w1 ⟨rfl, hb1⟩
  have hB1 : Blk w1 w.heap.size 24 #[.slice A l.length c0, .int .i64 torn, .int .i64 at_] := (Blk.new w 24 _).below hb1
  have h20 : w1.cell? ⟨w.heap.size, 0, none⟩ = some (.slice A l.length c0) := hB1.cell 0
  gi_wp2
  refine ⟨_, results_tmp2 rfl _ _ _, ?_⟩
  rw [hfin.out]
  exact ⟨.slice none 0 0, rfl, Kd.R_nil _ _ _ _ _, below_then (below_alloc (Below.refl _ _) _) (by simp) hb1⟩

/-- **fate.Put.** -/
theorem put_calls (A : Option Addr) (c0 : Nat) (l : List Bool) (torn at_ : Int) (w : World) (hr : Kd.C Kd.bool w A l.length l) :
    Calls Try.prog 13 #[.agg #[.slice A l.length c0, .int .i64 torn, .int .i64 at_]] w (PutPost w (fatePut l torn at_)) := by
  refine (callsIn_wide (n := 9)).1 ?_
  cases hmay : mayB l torn at_ with
  | false => exact put_not A c0 l torn at_ w hr hmay
  | true =>
    by_cases hlen : l.length ≤ 4096
    · exact put_ok A c0 l torn at_ w hr hmay hlen
    · exact put_long A c0 l torn at_ w hr hmay (by omega)
end Go.Proofs.Ytknibnbepmdapaa
