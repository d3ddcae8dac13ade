/-
fate.masks, fate.size, fate.came and its iterator: their contracts.
-/
import Derived.RangeFuncNested
import Derived.RangeFuncBound
import Derived.RangeFuncCalls
import Derived.RangeFuncLeaves
import Derived.Shelf.Abstract
import Derived.WalkKit
import Derived.OwnWalkIn
import Derived.TacticsInMore
import Derived.LoopNIn
import Derived.LoopIn
import Derived.Lib.Hide
import Derived.Test.YtknibnbepmdapaaProg
import Derived.Test.YtknibnbepmdapaaReg
import Derived.Test.YtknibnbepmdapaaWWords
namespace Go.Proofs.Ytknibnbepmdapaa
open Go.RowKit Go.Shelf Go.Proofs.YtknibnbepmdapaaW.PrintWords

def masksV : Value := .agg #[.int .u8 1, .int .u8 2, .int .u8 4, .int .u8 8, .int .u8 16, .int .u8 32, .int .u8 64, .int .u8 128]

theorem masks_any (w : World) :
    Calls Try.prog 48 #[] w fun e w' => e = .returned masksV ∧ Below w.heap.size w w' := by
  go_enter Try.func48, Try.ntmps48
  go_wp2
  refine bodyPost_ret (v := masksV) ?_ rfl ⟨rfl, (Below.refl _ _).alloc (Nat.le_refl _) _⟩
  simp [results, Try.results48, go_sem, masksV]

theorem add_block (a : Addr) (n : Nat) : (a.add n).block = a.block := by unfold Addr.add; split <;> rfl

theorem ret_int {k : IntKind} {a b : Int} (h : a = b) : Ending.returned (.int k a) = .returned (.int k b) := by rw [h]

theorem size_any (n : Int) (h0 : 0 ≤ n) (h1 : n ≤ 140737488355328) (w : World) :
    Calls Try.prog 46 #[.int .i64 n] w fun e w' => e = .returned (.int .i64 ((n + 7) / 8)) ∧ Below w.heap.size w w' := by
  go_enter Try.func46, Try.ntmps46
  go_wp2_with (go_at_call 48; refine (masks_any _).mono ?_; rintro e w' ⟨rfl, hb⟩)
  rename_i w1 hb1
  go_ret
  exact ⟨ret_int (by omega), hb1.trans (hb.mono hb1.size)⟩

theorem limited_any (n : Int) (w : World) :
    Calls Try.prog 52 #[.int .i64 n] w fun e w' => e = .returned (.int .i64 (min (max n 0) 4096)) ∧ w = w' := by
  by_cases h0 : n < 0
  · go_enter Try.func52, Try.ntmps52
    go_wp2
    go_ret
    exact ⟨ret_int (by omega), rfl⟩
  · by_cases h1 : n ≤ 4096
    · go_enter Try.func52, Try.ntmps52
      go_wp2
      go_ret
      exact ⟨ret_int (by omega), rfl⟩
    · go_enter Try.func52, Try.ntmps52
      go_wp2
      go_ret
      exact ⟨ret_int (by omega), rfl⟩

/-! ### The iterator -/

/-- The writes that came among the first k: how many came ahead, and the number. -/
def cameL (l : List Bool) : Nat → List (Fin l.length × Fin l.length)
  | 0 => []
  | k + 1 => if h : k < l.length ∧ (cameL l k).length < l.length then
      (if l.getD k false then cameL l k ++ [(⟨(cameL l k).length, h.2⟩, ⟨k, h.1⟩)] else cameL l k) else cameL l k

theorem cameL_length (l : List Bool) : ∀ k, (cameL l k).length ≤ k
  | 0 => Nat.le_refl _
  | k + 1 => by
    have := cameL_length l k
    unfold cameL
    split
    · split
      · rw [List.length_append]; simp; omega
      · omega
    · omega

theorem cameL_yes (l : List Bool) {k : Nat} (hk : k < l.length) (h : l.getD k false = true) :
    ∃ hl : (cameL l k).length < l.length, cameL l (k + 1) = cameL l k ++ [(⟨(cameL l k).length, hl⟩, ⟨k, hk⟩)] := by
  have hl : (cameL l k).length < l.length := Nat.lt_of_le_of_lt (cameL_length l k) hk
  refine ⟨hl, ?_⟩
  show (if h : k < l.length ∧ (cameL l k).length < l.length then _ else _) = _
  rw [dif_pos ⟨hk, hl⟩, if_pos h]

theorem cameL_no (l : List Bool) {k : Nat} (h : l.getD k false = false) : cameL l (k + 1) = cameL l k := by
  show (if h : k < l.length ∧ (cameL l k).length < l.length then _ else _) = _
  split
  · rw [if_neg (by rw [h]; simp)]
  · rfl

theorem cameL_prefix (l : List Bool) {j k : Nat} (h : j ≤ k) : cameL l j <+: cameL l k := by
  obtain ⟨d, rfl⟩ : ∃ d, k = j + d := ⟨k - j, by omega⟩
  clear h
  induction d with
  | zero => exact List.prefix_refl _
  | succ d ih =>
    refine ih.trans ?_
    show _ <+: (if h : j + d < l.length ∧ (cameL l (j + d)).length < l.length then _ else _)
    split
    · split
      · exact List.prefix_append _ _
      · exact List.prefix_refl _
    · exact List.prefix_refl _

section
variable (F : Fence) (hF : ∀ f, F.fn f) (hro : F.round = none)
include hF hro

set_option maxHeartbeats 1000000 in
theorem came_in (n : Nat) (A : Option Addr) (len cap : Nat) (t a : Int) (w : World) :
    CallsIn F n Try.prog 47 #[.agg #[.slice A len cap, .int .i64 t, .int .i64 a]] w fun e w' =>
      e = .returned (.func (.func 58) #[] #[.pointer (some ⟨w.heap.size, 0, none⟩)]) ∧ w' = w.alloc (.cells #[.slice A len cap, .int .i64 t, .int .i64 a] 24) := by
  refine callsIn_of_wp Try.func47 rfl (hF _) ?_ hro
  simp only [Try.ntmps47, List.size_toArray, List.length_cons, List.length_nil, Nat.reduceAdd, Nat.reduceSub, Array.replicate_succ, Array.replicate_zero, List.push_toArray, List.append_toArray, List.nil_append, List.cons_append]
  gi_wp2
  go_ret
  exact ⟨rfl, rfl⟩

set_option maxRecDepth 100000 in
set_option maxHeartbeats 2000000 in
theorem came1_in (n : Nat) (hn : 1 ≤ n) (lp Bs n₀ : Nat) (ad : Addr) (cap : Nat) (l : List Bool) (hmax : l.length ≤ 9223372036854775807) (hb : ad.block < n₀) (J Jx : List (Fin l.length × Fin l.length) → World → Prop)
    (hY : ∀ pre x W, J pre W → pre.length < l.length → YieldAt F (n - 1) Try.prog lp #[.int .i64 (x.1.val : Int), .int .i64 (x.2.val : Int)] W fun e W' =>
      (e = .returned (.bool true) ∧ J (pre ++ [x]) W' ∧ Below n₀ W W') ∨ (e = .returned (.bool false) ∧ Jx (pre ++ [x]) W'))
    (W : World) (hBs : W.cell? ⟨Bs, 0, none⟩ = some (.slice (some ad) l.length cap)) (hc : ∀ j, j < l.length → W.cell? (ad.add j) = some (.bool (l.getD j false))) (h0 : J [] W) :
    CallsIn F n Try.prog 58 #[.func (.yield lp) #[] #[], .pointer (some ⟨Bs, 0, none⟩)] W fun e W' => (∃ v, e = .returned v) ∧
      ((∃ ys, ys = cameL l l.length ∧ J ys W') ∨ (∃ pre, (∃ k, k ≤ l.length ∧ pre = cameL l k) ∧ Jx pre W')) := by
  refine callsIn_of_wp Try.func58 rfl (hF _) ?_ hro
  simp only [Try.ntmps58, List.size_toArray, List.length_cons, List.length_nil, Nat.reduceAdd, Nat.reduceSub, Array.replicate_succ, Array.replicate_zero, List.push_toArray, List.append_toArray, List.nil_append, List.cons_append]
  gi_wp2
  gi_loopw [3, 9] (fun s3 s9 wr => ∃ k : Nat, k ≤ l.length ∧ s9 = .int .i64 k ∧ s3 = .int .i64 ((cameL l k).length : Nat) ∧ J (cameL l k) wr ∧ Below n₀ W wr)
    (fun _ s9 _ => l.length - (intOf s9).toNat)
  case atStart => exact ⟨0, Nat.zero_le _, rfl, rfl, h0, Below.refl _ _⟩
  case round =>
    obtain ⟨k, hk, rfl, rfl, hJs, hnx⟩ := hrel
    have hlen := cameL_length l k
    by_cases hlt : k < l.length
    · have hcx : wr.cell? (ad.add k) = some (.bool (l.getD k false)) := (hnx.cell (p := ad.add k) (by rw [add_block]; exact hb)).trans (hc k hlt)
      cases hbit : l.getD k false with
      | false =>
        rw [hbit] at hcx
        have hno := Lib.hid (cameL_no l hbit)
        clear hbit
        gi_wp2
        go_roundw
        case rel => exact ⟨k + 1, by omega, by go_num, by rw [hno.out], by rw [hno.out]; exact hJs, hnx⟩
        case measure => simp [intOf]; omega
      | true =>
        rw [hbit] at hcx
        obtain ⟨hl, hyes⟩ := cameL_yes l hlt hbit
        have hyes := Lib.hid hyes
        clear hbit
        obtain ⟨fn, tmps, assign, body, hy, hR⟩ := hY (cameL l k) (⟨(cameL l k).length, hl⟩, ⟨k, hlt⟩) wr hJs hl
        dsimp only at hy
        gi_wp2
        refine hR.mono ?_
        rintro e W3 (⟨rfl, hJ3, hk3⟩ | ⟨rfl, hJx3⟩)
        · gi_wp2
          go_roundw
          case rel => exact ⟨k + 1, by omega, by go_num, by rw [hyes.out]; simp, by rw [hyes.out]; exact hJ3, hnx.trans hk3⟩
          case measure => simp [intOf]; omega
        · gi_wp2
          refine bodyPost_ret (results_none rfl _ _ _) rfl ?_
          exact ⟨⟨_, rfl⟩, .inr ⟨_, ⟨k + 1, by omega, hyes.out.symm⟩, hJx3⟩⟩
    · obtain rfl : k = l.length := by omega
      gi_wp2
      go_end0
      exact ⟨⟨_, rfl⟩, .inl ⟨_, rfl, hJs⟩⟩

set_option maxRecDepth 100000 in
set_option maxHeartbeats 1000000 in
theorem came1_nil_in (n : Nat) (lp Bs : Nat) (A : Option Addr) (cap : Nat) (J : World → Prop)
    (W : World) (hBs : W.cell? ⟨Bs, 0, none⟩ = some (.slice A 0 cap)) (h0 : J W) :
    CallsIn F n Try.prog 58 #[.func (.yield lp) #[] #[], .pointer (some ⟨Bs, 0, none⟩)] W fun e W' => (∃ v, e = .returned v) ∧ J W' := by
  refine callsIn_of_wp Try.func58 rfl (hF _) ?_ hro
  simp only [Try.ntmps58, List.size_toArray, List.length_cons, List.length_nil, Nat.reduceAdd, Nat.reduceSub, Array.replicate_succ, Array.replicate_zero, List.push_toArray, List.append_toArray, List.nil_append, List.cons_append]
  gi_wp2
  gi_loopw [9] (fun s9 wr => s9 = .int .i64 0 ∧ J wr) (fun _ _ => 0)
  case atStart => exact ⟨rfl, h0⟩
  case round =>
    obtain ⟨rfl, hJs⟩ := hrel
    gi_wp2
    go_end0
    exact ⟨⟨_, rfl⟩, hJs⟩

/-- **fate.came's iterator**: every element of 'cameL', in order; or a prefix. -/
theorem came_stops (n : Nat) (hn : 1 ≤ n) (Bs n₀ : Nat) (A : Option Addr) (cap : Nat) (l : List Bool) (w : World) (hBs : Bs < w.heap.size) (hn₀ : n₀ ≤ w.heap.size)
    (hA : ∀ ad, A = some ad → 0 < l.length → ad.block < n₀)
    (hc : w.cell? ⟨Bs, 0, none⟩ = some (.slice A l.length cap)) (hC : Kd.C Kd.bool w A l.length l) :
    SeqStopsK F n Try.prog 58 #[.pointer (some ⟨Bs, 0, none⟩)] (fun x : Fin l.length × Fin l.length => #[Value.int .i64 (x.1.val : Int), Value.int .i64 (x.2.val : Int)]) (Below n₀)
      (fun ys => ys = cameL l l.length) (fun pre => ∃ k, k ≤ l.length ∧ pre = cameL l k) l.length w := fun lp J Jx W hW _ _ hY h0 => by
  have hc' := (hW.cell (p := ⟨Bs, 0, none⟩) hBs).trans hc
  rcases Nat.eq_zero_or_pos l.length with h | h
  · have hl : l = [] := List.eq_nil_of_length_eq_zero h
    subst hl
    exact (came1_nil_in F hF hro n lp Bs A cap (J []) W hc' h0).mono fun e W' ⟨he, hj⟩ => ⟨he, .inl ⟨_, rfl, hj⟩⟩
  · obtain ⟨ad, rfl, hcell⟩ := hC.2.2 h
    have hb := hA ad rfl h
    refine came1_in F hF hro n hn lp Bs n₀ ad cap l hC.2.1 hb J Jx hY W hc' (fun j hj => ?_) h0
    obtain ⟨c, hc1, hc2, hc3⟩ := hcell j l[j] (List.getElem?_eq_getElem hj)
    have hcv : c = [.bool l[j]] := hc2
    subst hcv
    have := hc3 0 _ rfl
    refine (hW.cell (p := ad.add j) (by rw [add_block]; omega)).trans ?_
    rw [show j * Kd.bool.sz + 0 = j from by show j * 1 + 0 = j; omega] at this
    rw [this]
    simp [hj]
end
end Go.Proofs.Ytknibnbepmdapaa
