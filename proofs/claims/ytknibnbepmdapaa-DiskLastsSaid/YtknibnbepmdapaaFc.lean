/-
fate.masks, fate.size, fate.came and its iterator: their contracts.
-/
import Derived.RangeFuncNested
import Derived.RangeFuncBound
import Derived.RangeFuncCalls
import Derived.RangeFuncLeaves
import Derived.Shelf.Abstract
import Derived.WalkKit
import Derived.OwnWalkIn
import Derived.TacticsInMore
import Derived.LoopNIn
import Derived.LoopIn
import Derived.Lib.Hide
import Derived.Test.YtknibnbepmdapaaProg
import Derived.Test.YtknibnbepmdapaaReg4
import Derived.Test.YtknibnbepmdapaaWWords
import Derived.WalkLawsBesides
import Derived.WalkSpells
import Derived.Test.YtknibnbepmdapaaRange
namespace Go.Proofs.Ytknibnbepmdapaa
open Go.RowKit Go.Shelf Go.Proofs.YtknibnbepmdapaaW.PrintWords

def masksV : Value := .agg #[.int .u8 1, .int .u8 2, .int .u8 4, .int .u8 8, .int .u8 16, .int .u8 32, .int .u8 64, .int .u8 128]

theorem masks_any (w : World) :
    Calls Try.prog 48 #[] w fun e w' => e = .returned masksV ∧ Below w.heap.size w w' := by
  go_enter Try.func48, Try.ntmps48
  go_wp2
  refine bodyPost_ret (v := masksV) ?_ rfl ⟨rfl, (Below.refl _ _).alloc (Nat.le_refl _) _⟩
  simp [results, Try.results48, go_sem, masksV]

theorem add_block (a : Addr) (n : Nat) : (a.add n).block = a.block := by unfold Addr.add; split <;> rfl

theorem ret_int {k : IntKind} {a b : Int} (h : a = b) : Ending.returned (.int k a) = .returned (.int k b) := by rw [h]

theorem size_any (n : Int) (h0 : 0 ≤ n) (h1 : n ≤ 140737488355328) (w : World) :
    Calls Try.prog 46 #[.int .i64 n] w fun e w' => e = .returned (.int .i64 ((n + 7) / 8)) ∧ Below w.heap.size w w' := by
  go_enter Try.func46, Try.ntmps46
  go_wp2_with (go_at_call 48; refine (masks_any _).mono ?_; rintro e w' ⟨rfl, hb⟩)
  rename_i w1 hb1
  go_ret
  exact ⟨ret_int (by omega), hb1.trans (hb.mono hb1.size)⟩

theorem limited_any (n : Int) (w : World) :
    Calls Try.prog 52 #[.int .i64 n] w fun e w' => e = .returned (.int .i64 (min (max n 0) 4096)) ∧ w = w' := by
  by_cases h0 : n < 0
  · go_enter Try.func52, Try.ntmps52
    go_wp2
    go_ret
    exact ⟨ret_int (by omega), rfl⟩
  · by_cases h1 : n ≤ 4096
    · go_enter Try.func52, Try.ntmps52
      go_wp2
      go_ret
      exact ⟨ret_int (by omega), rfl⟩
    · go_enter Try.func52, Try.ntmps52
      go_wp2
      go_ret
      exact ⟨ret_int (by omega), rfl⟩

/-! ### The iterator -/

/-- The writes that came among the first k: how many came ahead, and the number. -/
def cameL (l : List Bool) : Nat → List (Fin l.length × Fin l.length)
  | 0 => []
  | k + 1 => if h : k < l.length ∧ (cameL l k).length < l.length then
      (if l.getD k false then cameL l k ++ [(⟨(cameL l k).length, h.2⟩, ⟨k, h.1⟩)] else cameL l k) else cameL l k

theorem cameL_length (l : List Bool) : ∀ k, (cameL l k).length ≤ k
  | 0 => Nat.le_refl _
  | k + 1 => by
    have := cameL_length l k
    unfold cameL
    split
    · split
      · rw [List.length_append]; simp; omega
      · omega
    · omega

theorem cameL_yes (l : List Bool) {k : Nat} (hk : k < l.length) (h : l.getD k false = true) :
    ∃ hl : (cameL l k).length < l.length, cameL l (k + 1) = cameL l k ++ [(⟨(cameL l k).length, hl⟩, ⟨k, hk⟩)] := by
  have hl : (cameL l k).length < l.length := Nat.lt_of_le_of_lt (cameL_length l k) hk
  refine ⟨hl, ?_⟩
  show (if h : k < l.length ∧ (cameL l k).length < l.length then _ else _) = _
  rw [dif_pos ⟨hk, hl⟩, if_pos h]

theorem cameL_no (l : List Bool) {k : Nat} (h : l.getD k false = false) : cameL l (k + 1) = cameL l k := by
  show (if h : k < l.length ∧ (cameL l k).length < l.length then _ else _) = _
  split
  · rw [if_neg (by rw [h]; simp)]
  · rfl

theorem cameL_prefix (l : List Bool) {j k : Nat} (h : j ≤ k) : cameL l j <+: cameL l k := by
  obtain ⟨d, rfl⟩ : ∃ d, k = j + d := ⟨k - j, by omega⟩
  clear h
  induction d with
  | zero => exact List.prefix_refl _
  | succ d ih =>
    refine ih.trans ?_
    show _ <+: (if h : j + d < l.length ∧ (cameL l (j + d)).length < l.length then _ else _)
    split
    · split
      · exact List.prefix_append _ _
      · exact List.prefix_refl _
    · exact List.prefix_refl _

section
variable (F : Fence) (hF : ∀ f, F.fn f) (hro : F.round = none)
include hF hro

set_option maxHeartbeats 1000000 in
theorem came_in (n : Nat) (A : Option Addr) (len cap : Nat) (t a : Int) (w : World) :
    CallsIn F n Try.prog 47 #[.agg #[.slice A len cap, .int .i64 t, .int .i64 a]] w fun e w' =>
      e = .returned (.func (.func 58) #[] #[.pointer (some ⟨w.heap.size, 0, none⟩)]) ∧ w' = w.alloc (.cells #[.slice A len cap, .int .i64 t, .int .i64 a] 24) := by
  refine callsIn_of_wp Try.func47 rfl (hF _) ?_ hro
  simp only [Try.ntmps47, List.size_toArray, List.length_cons, List.length_nil, Nat.reduceAdd, Nat.reduceSub, Array.replicate_succ, Array.replicate_zero, List.push_toArray, List.append_toArray, List.nil_append, List.cons_append]
  gi_wp2
  go_ret
  exact ⟨rfl, rfl⟩

set_option maxRecDepth 100000 in
set_option maxHeartbeats 2000000 in
theorem came1_in (n : Nat) (hn : 1 ≤ n) (lp Bs n₀ : Nat) (ad : Addr) (cap : Nat) (l : List Bool) (hmax : l.length ≤ 9223372036854775807) (hb : ad.block < n₀) (J Jx : List (Fin l.length × Fin l.length) → World → Prop)
    (hY : ∀ pre x W, J pre W → pre.length < l.length → YieldAt F (n - 1) Try.prog lp #[.int .i64 (x.1.val : Int), .int .i64 (x.2.val : Int)] W fun e W' =>
      (e = .returned (.bool true) ∧ J (pre ++ [x]) W' ∧ Below n₀ W W') ∨ (e = .returned (.bool false) ∧ Jx (pre ++ [x]) W'))
    (W : World) (hBs : W.cell? ⟨Bs, 0, none⟩ = some (.slice (some ad) l.length cap)) (hc : ∀ j, j < l.length → W.cell? (ad.add j) = some (.bool (l.getD j false))) (h0 : J [] W) :
    CallsIn F n Try.prog 58 #[.func (.yield lp) #[] #[], .pointer (some ⟨Bs, 0, none⟩)] W fun e W' => (∃ v, e = .returned v) ∧
      ((∃ ys, ys = cameL l l.length ∧ J ys W') ∨ (∃ pre, (∃ k, k ≤ l.length ∧ pre = cameL l k) ∧ Jx pre W')) := by
  refine callsIn_of_wp Try.func58 rfl (hF _) ?_ hro
  simp only [Try.ntmps58, List.size_toArray, List.length_cons, List.length_nil, Nat.reduceAdd, Nat.reduceSub, Array.replicate_succ, Array.replicate_zero, List.push_toArray, List.append_toArray, List.nil_append, List.cons_append]
  gi_wp2
  gi_loopw [3, 9] (fun s3 s9 wr => ∃ k : Nat, k ≤ l.length ∧ s9 = .int .i64 k ∧ s3 = .int .i64 ((cameL l k).length : Nat) ∧ J (cameL l k) wr ∧ Below n₀ W wr)
    (fun _ s9 _ => l.length - (intOf s9).toNat)
  case atStart => exact ⟨0, Nat.zero_le _, rfl, rfl, h0, Below.refl _ _⟩
  case round =>
    obtain ⟨k, hk, rfl, rfl, hJs, hnx⟩ := hrel
    have hlen := cameL_length l k
    by_cases hlt : k < l.length
    · have hcx : wr.cell? (ad.add k) = some (.bool (l.getD k false)) := (hnx.cell (p := ad.add k) (by rw [add_block]; exact hb)).trans (hc k hlt)
      cases hbit : l.getD k false with
      | false =>
        rw [hbit] at hcx
        have hno := Lib.hid (cameL_no l hbit)
        clear hbit
        gi_wp2
        go_roundw
        case rel => exact ⟨k + 1, by omega, by go_num, by rw [hno.out], by rw [hno.out]; exact hJs, hnx⟩
        case measure => simp [intOf]; omega
      | true =>
        rw [hbit] at hcx
        obtain ⟨hl, hyes⟩ := cameL_yes l hlt hbit
        have hyes := Lib.hid hyes
        clear hbit
        obtain ⟨fn, tmps, assign, body, hy, hR⟩ := hY (cameL l k) (⟨(cameL l k).length, hl⟩, ⟨k, hlt⟩) wr hJs hl
        dsimp only at hy
        gi_wp2
        refine hR.mono ?_
        rintro e W3 (⟨rfl, hJ3, hk3⟩ | ⟨rfl, hJx3⟩)
        · gi_wp2
          go_roundw
          case rel => exact ⟨k + 1, by omega, by go_num, by rw [hyes.out]; simp, by rw [hyes.out]; exact hJ3, hnx.trans hk3⟩
          case measure => simp [intOf]; omega
        · gi_wp2
          refine bodyPost_ret (results_none rfl _ _ _) rfl ?_
          exact ⟨⟨_, rfl⟩, .inr ⟨_, ⟨k + 1, by omega, hyes.out.symm⟩, hJx3⟩⟩
    · obtain rfl : k = l.length := by omega
      gi_wp2
      go_end0
      exact ⟨⟨_, rfl⟩, .inl ⟨_, rfl, hJs⟩⟩

set_option maxRecDepth 100000 in
set_option maxHeartbeats 1000000 in
theorem came1_nil_in (n : Nat) (lp Bs : Nat) (A : Option Addr) (cap : Nat) (J : World → Prop)
    (W : World) (hBs : W.cell? ⟨Bs, 0, none⟩ = some (.slice A 0 cap)) (h0 : J W) :
    CallsIn F n Try.prog 58 #[.func (.yield lp) #[] #[], .pointer (some ⟨Bs, 0, none⟩)] W fun e W' => (∃ v, e = .returned v) ∧ J W' := by
  refine callsIn_of_wp Try.func58 rfl (hF _) ?_ hro
  simp only [Try.ntmps58, List.size_toArray, List.length_cons, List.length_nil, Nat.reduceAdd, Nat.reduceSub, Array.replicate_succ, Array.replicate_zero, List.push_toArray, List.append_toArray, List.nil_append, List.cons_append]
  gi_wp2
  gi_loopw [9] (fun s9 wr => s9 = .int .i64 0 ∧ J wr) (fun _ _ => 0)
  case atStart => exact ⟨rfl, h0⟩
  case round =>
    obtain ⟨rfl, hJs⟩ := hrel
    gi_wp2
    go_end0
    exact ⟨⟨_, rfl⟩, hJs⟩

/-- **fate.came's iterator**: every element of 'cameL', in order; or a prefix. -/
theorem came_stops (n : Nat) (hn : 1 ≤ n) (Bs n₀ : Nat) (A : Option Addr) (cap : Nat) (l : List Bool) (w : World) (hBs : Bs < w.heap.size) (hn₀ : n₀ ≤ w.heap.size)
    (hA : ∀ ad, A = some ad → 0 < l.length → ad.block < n₀)
    (hc : w.cell? ⟨Bs, 0, none⟩ = some (.slice A l.length cap)) (hC : Kd.C Kd.bool w A l.length l) :
    SeqStopsK F n Try.prog 58 #[.pointer (some ⟨Bs, 0, none⟩)] (fun x : Fin l.length × Fin l.length => #[Value.int .i64 (x.1.val : Int), Value.int .i64 (x.2.val : Int)]) (Below n₀)
      (fun ys => ys = cameL l l.length) (fun pre => ∃ k, k ≤ l.length ∧ pre = cameL l k) l.length w := fun lp J Jx W hW _ _ hY h0 => by
  have hc' := (hW.cell (p := ⟨Bs, 0, none⟩) hBs).trans hc
  rcases Nat.eq_zero_or_pos l.length with h | h
  · have hl : l = [] := List.eq_nil_of_length_eq_zero h
    subst hl
    exact (came1_nil_in F hF hro n lp Bs A cap (J []) W hc' h0).mono fun e W' ⟨he, hj⟩ => ⟨he, .inl ⟨_, rfl, hj⟩⟩
  · obtain ⟨ad, rfl, hcell⟩ := hC.2.2 h
    have hb := hA ad rfl h
    refine came1_in F hF hro n hn lp Bs n₀ ad cap l hC.2.1 hb J Jx hY W hc' (fun j hj => ?_) h0
    obtain ⟨c, hc1, hc2, hc3⟩ := hcell j l[j] (List.getElem?_eq_getElem hj)
    have hcv : c = [.bool l[j]] := hc2
    subst hcv
    have := hc3 0 _ rfl
    refine (hW.cell (p := ad.add j) (by rw [add_block]; omega)).trans ?_
    rw [show j * Kd.bool.sz + 0 = j from by show j * 1 + 0 = j; omega] at this
    rw [this]
    simp [hj]
end
end Go.Proofs.Ytknibnbepmdapaa

/-
fate.may: its contract.
-/
namespace Go.Proofs.Ytknibnbepmdapaa
open Go.RowKit Go.Shelf Go.Proofs.YtknibnbepmdapaaW.PrintWords

theorem ret_bool {a b : Bool} (h : a = b) : Ending.returned (.bool a) = .returned (.bool b) := by rw [h]

def mayB (l : List Bool) (torn at_ : Int) : Bool :=
  if torn = -1 then at_ == 0 else decide (0 ≤ torn ∧ torn < l.length ∧ l.getD torn.toNat false = true ∧ 0 ≤ at_ ∧ at_ ≤ 256)

theorem bool_at {w : World} {A : Option Addr} {n : Nat} {l : List Bool} (h : Kd.C Kd.bool w A n l) {k : Nat} (hk : k < n) :
    ∃ ad, A = some ad ∧ ad.block < w.heap.size ∧ w.cell? (ad.add k) = some (.bool (l.getD k false)) := by
  obtain ⟨ad, c, hA, hl, hK, hcell⟩ := Kd.C_get h false (k : Int) (by omega) (by omega)
  have hcv : c = [.bool (l.getD k false)] := by have := hK; rw [Int.toNat_natCast] at this; exact this
  subst hcv
  have h0 := hcell 0 _ rfl
  rw [Int.toNat_natCast, show k * Kd.bool.sz + 0 = k from by show k * 1 + 0 = k; omega] at h0
  exact ⟨ad, hA, by have := World.block_lt_of_cell? _ _ h0; rwa [add_block] at this, h0⟩

theorem may_calls (A : Option Addr) (c0 : Nat) (l : List Bool) (torn at_ : Int) (w : World) (hr : Kd.C Kd.bool w A l.length l) :
    Calls Try.prog 45 #[.agg #[.slice A l.length c0, .int .i64 torn, .int .i64 at_]] w fun e w' => e = .returned (.bool (mayB l torn at_)) ∧ Below w.heap.size w w' := by
  have hmax := Kd.C_max hr
  have hB := Lib.hid ((Below.refl w.heap.size w).alloc (Nat.le_refl _) (.cells #[.slice A l.length c0, .int .i64 torn, .int .i64 at_] 24))
  by_cases h1 : torn = -1
  · subst h1
    clear hr
    go_enter Try.func45, Try.ntmps45
    go_wp2
    go_ret
    exact ⟨ret_bool (by simp [mayB]), hB.out⟩
  · have h1' : (torn == (-1 : Int)) = false := by simpa using h1
    by_cases h2 : torn < 0
    · clear hr
      go_enter Try.func45, Try.ntmps45
      go_wp2
      go_ret
      exact ⟨ret_bool (by unfold mayB; rw [if_neg h1]; symm; rw [decide_eq_false_iff_not]; omega), hB.out⟩
    · obtain ⟨n, rfl⟩ := Int.eq_ofNat_of_zero_le (show 0 ≤ torn by omega)
      by_cases h3 : n < l.length
      · obtain ⟨ad, rfl, hlt, hcell⟩ := bool_at hr h3
        have hc' : (w.alloc (.cells #[.slice (some ad) l.length c0, .int .i64 n, .int .i64 at_] 24)).cell? (ad.add n) = some (.bool (l.getD n false)) :=
          (World.cell?_alloc_lt w _ _ (by rw [add_block]; exact hlt)).trans hcell
        clear hr hcell
        cases hb : l.getD n false with
        | false =>
          rw [hb] at hc'
          have hb := Lib.hid hb
          go_enter Try.func45, Try.ntmps45
          go_wp2
          go_ret
          exact ⟨ret_bool (by unfold mayB; rw [if_neg h1]; symm; rw [decide_eq_false_iff_not, Int.toNat_natCast, hb.out]; simp), hB.out⟩
        | true =>
          rw [hb] at hc'
          have hb := Lib.hid hb
          by_cases h4 : 0 ≤ at_
          · go_enter Try.func45, Try.ntmps45
            go_wp2
            go_ret
            exact ⟨ret_bool (by unfold mayB; rw [if_neg h1, Int.toNat_natCast, hb.out]; simp [h4, h3]), hB.out⟩
          · go_enter Try.func45, Try.ntmps45
            go_wp2
            go_ret
            exact ⟨ret_bool (by unfold mayB; rw [if_neg h1]; symm; rw [decide_eq_false_iff_not]; omega), hB.out⟩
      · clear hr
        go_enter Try.func45, Try.ntmps45
        go_wp2
        go_ret
        exact ⟨ret_bool (by unfold mayB; rw [if_neg h1]; symm; rw [decide_eq_false_iff_not]; omega), hB.out⟩
end Go.Proofs.Ytknibnbepmdapaa

/-
fate.Put: its contract.
-/
namespace Go.Proofs.Ytknibnbepmdapaa
open Go.RowKit Go.Shelf Go.Proofs.YtknibnbepmdapaaW.PrintWords
attribute [local go_sem] Oper.semAt_some

theorem bcell {W w1 : World} (hb : Below W.heap.size W w1) : (∀ b o, b < W.heap.size → w1.cell? ⟨b, o, none⟩ = W.cell? ⟨b, o, none⟩) ∧ (∀ b o, b < W.heap.size → w1.frozen? ⟨b, o, none⟩ = W.frozen? ⟨b, o, none⟩) :=
  ⟨fun b o h => hb.cell (p := ⟨b, o, none⟩) h, fun b o h => hb.frozen (p := ⟨b, o, none⟩) h⟩

theorem info5 : (Try.prog.info? 5).map (fun i => (i.zero, i.size, i.bytes)) = some (some (.int .u8 0), 1, 1) := by kernel_rfl

theorem make_bytes (n : Nat) (h : n ≤ 281474976710656) (w : World) :
    (Instr.makeSlice 25 (.int .i64 (n : Int)) (.int .i64 (n : Int))).run Try.prog w = .ok (.slice (some ⟨w.heap.size, 0, none⟩) n n) (w.alloc (.cells (encV (Value.int .u8) (List.replicate n 0)) 5)) := by
  rw [run_make_row' (P := Try.prog) 25 5 (.int .u8 0) 1 Try.underlying25 info5 rfl .i64 .i64 n (by omega) (by omega) w, madeCells_one, encV_replicate]

/-- The mask of a bit. -/
def maskI (j : Nat) : Int := ((2 ^ j : Nat) : Int)

def orStep (bs : List Int) (i : Nat) : List Int := bs.set (i / 8) (bits .or .u8 (bs.getD (i / 8) 0) (maskI (i % 8)))

def orBits {N : Nat} (nb : Nat) (xs : List (Fin N × Fin N)) : List Int := xs.foldl (fun bs x => orStep bs x.2.val) (List.replicate nb 0)

theorem orBits_snoc {N : Nat} (nb : Nat) (xs : List (Fin N × Fin N)) (x : Fin N × Fin N) : orBits nb (xs ++ [x]) = orStep (orBits nb xs) x.2.val := by simp [orBits]

theorem orBits_length {N : Nat} (nb : Nat) (xs : List (Fin N × Fin N)) : (orBits nb xs).length = nb := by
  unfold orBits
  have : ∀ (xs : List (Fin N × Fin N)) (bs : List Int), (xs.foldl (fun bs x => orStep bs x.2.val) bs).length = bs.length := by
    intro xs
    induction xs with
    | nil => intro bs; rfl
    | cons x xs ih => intro bs; rw [List.foldl_cons, ih]; simp [orStep]
  rw [this]; simp

def aheadOf {N : Nat} (torn : Int) (xs : List (Fin N × Fin N)) : Int := xs.foldl (fun t x => if (x.2.val : Int) = torn then (x.1.val : Int) else t) (-1)

theorem aheadOf_snoc {N : Nat} (torn : Int) (xs : List (Fin N × Fin N)) (x : Fin N × Fin N) : aheadOf torn (xs ++ [x]) = if (x.2.val : Int) = torn then (x.1.val : Int) else aheadOf torn xs := by simp [aheadOf]

theorem masks_index (j : Nat) (hj : j < 8) (w : World) : (Instr.index 82 masksV (.int .i64 (j : Int))).run Try.prog w = .ok (.int .u8 (maskI j)) w := by
  have : j = 0 ∨ j = 1 ∨ j = 2 ∨ j = 3 ∨ j = 4 ∨ j = 5 ∨ j = 6 ∨ j = 7 := by omega
  rcases this with rfl | rfl | rfl | rfl | rfl | rfl | rfl | rfl <;> rfl

def fatePut (l : List Bool) (torn at_ : Int) : List Int × Int :=
  if mayB l torn at_ = false then ([], 2) else if 4096 < l.length then ([], 4) else
    if 127 < aheadOf torn (cameL l l.length) then ([], 4) else
      if 0 ≤ aheadOf torn (cameL l l.length) then (orBits ((l.length + 7) / 8) (cameL l l.length) ++ [aheadOf torn (cameL l l.length), at_ / 256, at_ % 256], 0)
      else (orBits ((l.length + 7) / 8) (cameL l l.length), 0)

def PutPost (w : World) (r : List Int × Int) (e : Ending) (w' : World) : Prop :=
  ∃ v, e = .returned (.tuple #[v, .int .i64 r.2]) ∧ Kd.R (Kd.int .u8) 5 w' w.heap.size (fun _ => True) v r.1 ∧ Below w.heap.size w w'

theorem aheadOf_ge {N : Nat} (torn : Int) (xs : List (Fin N × Fin N)) : -1 ≤ aheadOf torn xs := by
  unfold aheadOf
  have : ∀ (xs : List (Fin N × Fin N)) (t : Int), -1 ≤ t → -1 ≤ xs.foldl (fun t x => if (x.2.val : Int) = torn then (x.1.val : Int) else t) t := by
    intro xs
    induction xs with
    | nil => intro t ht; exact ht
    | cons x xs ih => intro t ht; rw [List.foldl_cons]; apply ih; split <;> omega
  exact this xs _ (by omega)

theorem mayB_at {l : List Bool} {torn at_ : Int} (h : mayB l torn at_ = true) : 0 ≤ at_ ∧ at_ ≤ 256 := by
  unfold mayB at h
  split at h
  · simp at h; omega
  · rw [decide_eq_true_eq] at h; omega

set_option maxRecDepth 100000 in
set_option maxHeartbeats 400000 in
theorem put_ok (A : Option Addr) (c0 : Nat) (l : List Bool) (torn at_ : Int) (w : World) (hr : Kd.C Kd.bool w A l.length l)
    (hmay : mayB l torn at_ = true) (hlen : l.length ≤ 4096) :
    CallsIn Fence.wide 9 Try.prog 13 #[.agg #[.slice A l.length c0, .int .i64 torn, .int .i64 at_]] w (PutPost w (fatePut l torn at_)) := by
  have hF : ∀ f, Fence.wide.fn f := fun _ => trivial
  refine callsIn_of_wp_marks Try.func13 rfl (hF _) ?_ rfl
  simp only [Try.ntmps13, List.size_toArray, List.length_cons, List.length_nil, Nat.reduceAdd, Nat.reduceSub, Array.replicate_succ, Array.replicate_zero, List.push_toArray, List.append_toArray, List.nil_append, List.cons_append]
  have hm0 := may_calls A c0 l torn at_ (w.alloc (.cells #[.slice A l.length c0, .int .i64 torn, .int .i64 at_] 24)) (Kd.C_alloc hr _)
  rw [hmay] at hm0
  gi_wp2_with fail
  refine (callsIn_wide.2 hm0).mono ?_
  rintro e w1 ⟨rfl, hb1⟩
  obtain ⟨hc1, hf1⟩ := bcell hb1
  gi_wp2_with fail
  refine (callsIn_wide.2 (size_any _ (by omega) (by omega) _)).mono ?_
  rintro e w2 ⟨rfl, hb2⟩
  obtain ⟨hc2, hf2⟩ := bcell hb2
  obtain ⟨nb, hnb⟩ : ∃ nb : Nat, ((l.length : Int) + 7) / 8 = (nb : Int) := ⟨(l.length + 7) / 8, by omega⟩
  rw [hnb]
  have hmk := fun w => make_bytes nb (by omega) w
  have hB2 : Blk w2 w.heap.size 24 #[.slice A l.length c0, .int .i64 torn, .int .i64 at_] := ((Blk.new w 24 _).below hb1).below hb2
  have h20 : w2.cell? ⟨w.heap.size, 0, none⟩ = some (.slice A l.length c0) := hB2.cell 0
  have h21 : w2.cell? ⟨w.heap.size, 1, none⟩ = some (.int .i64 torn) := hB2.cell 1
  have h22 : w2.cell? ⟨w.heap.size, 2, none⟩ = some (.int .i64 at_) := hB2.cell 2
  have hz2 := hB2.lt
  have hz3 : w.heap.size < w2.heap.size + 1 := by omega
  have hz4 : w.heap.size < w2.heap.size + 1 + 1 := by omega
  gi_wp2_with fail
  refine (came_in Fence.wide hF rfl 8 A l.length c0 torn at_ _).mono ?_
  rintro e w3 ⟨rfl, rfl⟩
  gi_wp2_with fail
  obtain ⟨W3, hW3⟩ : ∃ W3, ((((w2.alloc (.cells (encV (Value.int .u8) (List.replicate nb 0)) 5)).alloc (.cells #[.slice (some ⟨w2.heap.size, 0, none⟩) nb nb] 25)).alloc (.cells #[.int .i64 (-1)] 3)).alloc (.cells #[.slice A l.length c0, .int .i64 torn, .int .i64 at_] 24)) = W3 := ⟨_, rfl⟩
  rw [hW3]
  have hsz : W3.heap.size = w2.heap.size + 4 := by rw [← hW3]; simp
  have k0 : Blk W3 w.heap.size 24 #[.slice A l.length c0, .int .i64 torn, .int .i64 at_] := by rw [← hW3]; exact (((hB2.alloc _).alloc _).alloc _).alloc _
  have k1 : Blk W3 w2.heap.size 5 (encV (Value.int .u8) (orBits nb ([] : List (Fin l.length × Fin l.length)))) := by rw [← hW3]; exact (((Blk.new w2 5 _).alloc _).alloc _).alloc _
  have k2 : Blk W3 (w2.heap.size + 1) 25 #[.slice (some ⟨w2.heap.size, 0, none⟩) nb nb] := by
    rw [← hW3]; have := (((Blk.new (w2.alloc (.cells (encV (Value.int .u8) (List.replicate nb 0)) 5)) 25 #[.slice (some ⟨w2.heap.size, 0, none⟩) nb nb]).alloc (.cells #[.int .i64 (-1)] 3)).alloc (.cells #[.slice A l.length c0, .int .i64 torn, .int .i64 at_] 24)); simpa using this
  have k3 : Blk W3 (w2.heap.size + 1 + 1) 3 #[.int .i64 (aheadOf torn ([] : List (Fin l.length × Fin l.length)))] := by
    change Blk W3 (w2.heap.size + 1 + 1) 3 #[.int .i64 (-1)]
    rw [← hW3]; have := (Blk.new ((w2.alloc (.cells (encV (Value.int .u8) (List.replicate nb 0)) 5)).alloc (.cells #[.slice (some ⟨w2.heap.size, 0, none⟩) nb nb] 25)) 3 #[.int .i64 (-1)]).alloc (.cells #[.slice A l.length c0, .int .i64 torn, .int .i64 at_] 24); simpa using this
  have k4 : Blk W3 (w2.heap.size + 1 + 1 + 1) 24 #[.slice A l.length c0, .int .i64 torn, .int .i64 at_] := by
    rw [← hW3]; have := Blk.new (((w2.alloc (.cells (encV (Value.int .u8) (List.replicate nb 0)) 5)).alloc (.cells #[.slice (some ⟨w2.heap.size, 0, none⟩) nb nb] 25)).alloc (.cells #[.int .i64 (-1)] 3)) 24 #[.slice A l.length c0, .int .i64 torn, .int .i64 at_]; simpa using this
  have hb3 : Below w.heap.size w W3 := by
    rw [← hW3]
    have hbw : Below w.heap.size w w2 := below_then (below_then (below_alloc (Below.refl _ _) _) (by simp) hb1) (by have := hb1.size; simp at this; omega) hb2
    exact below_alloc (below_alloc (below_alloc (below_alloc hbw _) _) _) _
  have hAb : ∀ ad, A = some ad → 0 < l.length → ad.block < w.heap.size := fun ad e h0 => by
    obtain ⟨ad', e', hlt, _⟩ := bool_at hr h0
    rw [e] at e'; cases e'; exact hlt
  clear hW3
  refine wpIn_range2 (F := Fence.wide) rfl (by omega) (gf := 58) (lb := #[.pointer (some ⟨w2.heap.size + 1 + 1 + 1, 0, none⟩)]) rfl (hF _) (enters_of Try.func58 (by kernel_rfl) rfl) ⟨by decide, by simp, by simp, by decide⟩
    (came_stops Fence.wide hF rfl 8 (by omega) (w2.heap.size + 1 + 1 + 1) w.heap.size A c0 l W3 (by omega) (by omega) hAb (k4.cell 0) (Kd.C_below hr hb3))
    belowK_t (belowK_b (by omega)) (Below.refl _ _)
    (fun pre W => (Blk W w2.heap.size 5 (encV (Value.int .u8) (orBits nb pre)) ∧ Blk W (w2.heap.size + 1) 25 #[.slice (some ⟨w2.heap.size, 0, none⟩) nb nb] ∧ Blk W (w2.heap.size + 1 + 1) 3 #[.int .i64 (aheadOf torn pre)] ∧ Blk W w.heap.size 24 #[.slice A l.length c0, .int .i64 torn, .int .i64 at_]) ∧ Below w.heap.size w W)
    (fun _ _ _ => False)
    (OwnFrom.and (fun s W W' row hs hg hr => ⟨hs.1.own hg hr, hs.2.1.own hg hr, hs.2.2.1.own hg hr, hs.2.2.2.own hg hr⟩) (ownFrom_below (Nat.le_refl _) (by omega)))
    (fun _ _ _ _ _ hs _ _ => hs.elim)
    ⟨⟨k1, k2, k3, k0⟩, hb3⟩ ?body ?done ?stop
  case stop => exact fun D c pre W _ _ h _ => h.elim
  case done =>
    rintro D ys W hD rfl ⟨⟨j1, j2, j3, j0⟩, hbW⟩ hK
    have hge := aheadOf_ge torn (cameL l l.length)
    have hol := orBits_length nb (cameL l l.length)
    have hfin : Hid (fatePut l torn at_ = if 127 < aheadOf torn (cameL l l.length) then ([], 4) else
      if 0 ≤ aheadOf torn (cameL l l.length) then (orBits nb (cameL l l.length) ++ [aheadOf torn (cameL l l.length), at_ / 256, at_ % 256], 0) else (orBits nb (cameL l l.length), 0)) := Lib.hid (by
        unfold fatePut
        rw [if_neg (by rw [hmay]; simp), if_neg (by omega), show (l.length + 7) / 8 = nb by omega])
    generalize aheadOf torn (cameL l l.length) = ah at *
    have f1 : W.cell? ⟨w2.heap.size + 1 + 1, 0, none⟩ = some (.int .i64 ah) := j3.cell 0
    have f2 : W.cell? ⟨w2.heap.size + 1, 0, none⟩ = some (.slice (some ⟨w2.heap.size, 0, none⟩) nb nb) := j2.cell 0
    have f3 : W.cell? ⟨w.heap.size, 2, none⟩ = some (.int .i64 at_) := j0.cell 2
    by_cases h127 : 127 < ah
    · gi_wp2
      refine ⟨by simp, .inl ⟨_, _, rfl, run_takeDeferred hK, ?_⟩⟩
      refine ⟨_, results_tmp2 rfl _ _ _, ?_⟩
      rw [hfin.out, if_pos (by omega)]
      exact ⟨.slice none 0 0, rfl, Kd.R_nil _ _ _ _ _, hbW.trans (belowK_b (w := w) (Nat.le_refl _) W D _ _ (by omega) hK rfl rfl)⟩
    · by_cases hah : 0 ≤ ah
      · have hmay' := mayB_at hmay
        have hws := hbW.size
        have hown := (j1.owns (base := w.heap.size) (by omega) (by rw [hol]; unfold maxLen; omega))
        rw [hol] at hown
        obtain ⟨i0, hi, hz0, hz1, hz2'⟩ := info_parts info5
        gi_wp2_with (gi_at_builtin; refine wpListIn_append_own _ rfl _ _ 25 rfl w.heap.size 5 i0 (.int .u8 0) 1 1 Try.underlying25 hi hz0 hz1 hz2' rfl (by decide) (.slice (some ⟨w2.heap.size, 0, none⟩) nb nb) nb _ rfl (hown.alloc _) ⟨W.heap.size, 0, none⟩ 3 3 [.int .u8 ah, .int .u8 (at_ / 256), .int .u8 (at_ % 256)] rfl rfl (cell_three_new _ _ _ _ _) (by simp [Value.oneCell']) (by unfold maxLen; omega) (by omega) (by simp; omega) ?_; intro v' w4 hown' hgrow _; obtain ⟨g', cap', rfl⟩ := ownsRow_succ hown'; have hbx := ((j2.alloc (.cells #[.int .u8 ah, .int .u8 (at_ / 256), .int .u8 (at_ % 256)] 5)).grown hgrow (by simp [Value.ownBlock])); have hc := hbx.cell 0; have hf := hbx.frozen 0)
        have hDlt : D < W.heap.size := (Array.getElem?_eq_some_iff.1 hK).1
        have hK4 : w4.heap[D]? = some (.deferred (some [])) := (hgrow.block D (by simp; omega) (by simp [Value.ownBlock]; omega)).trans ((Below.heap_alloc _ _ _ hDlt).trans hK)
        have hK5 : (w4.setCell ⟨w2.heap.size + 1, 0, none⟩ (.slice (some ⟨g', 0, none⟩) (nb + 3) cap')).heap[D]? = some (.deferred (some [])) := (Below.heap_setCell _ _ _ D (by show D ≠ w2.heap.size + 1; omega)).trans hK4
        refine ⟨by simp, .inl ⟨_, _, rfl, run_takeDeferred hK5, ?_⟩⟩
        refine ⟨_, results_tmp2 rfl _ _ _, ?_⟩
        rw [hfin.out, if_neg (by omega), if_pos hah]
        have hown5 := ownsRow_putObj (own_setCell (p := ⟨w2.heap.size + 1, 0, none⟩) hown' (own_ne hown' hbx (by decide)) (.slice (some ⟨g', 0, none⟩) (nb + 3) cap')) (.deferred none) hK5 rfl
        refine ⟨.slice (some ⟨g', 0, none⟩) (nb + 3) cap', rfl, Kd.R_of_own ?_ (fun _ _ => trivial), ?_⟩
        · rw [show (orBits nb (cameL l l.length) ++ [ah, at_ / 256, at_ % 256]).length = nb + 3 by rw [List.length_append, hol]; rfl, encs_append]
          exact hown5
        · exact ((((hbW.alloc hbW.size _).grown hgrow (by simp; omega) (fun k e => by simp [Value.ownBlock] at e; omega)).setCell (p := ⟨w2.heap.size + 1, 0, none⟩) (by show _ ≤ w2.heap.size + 1; omega) _)).trans (belowK_b (w := w) (Nat.le_refl _) _ D _ _ (by omega) hK5 rfl rfl)
      · gi_wp2
        refine ⟨by simp, .inl ⟨_, _, rfl, run_takeDeferred hK, ?_⟩⟩
        refine ⟨_, results_tmp2 rfl _ _ _, ?_⟩
        rw [hfin.out, if_neg (by omega), if_neg (by omega)]
        refine ⟨.slice (some ⟨w2.heap.size, 0, none⟩) nb nb, rfl, ?_, hbW.trans (belowK_b (w := w) (Nat.le_refl _) W D _ _ (by omega) hK rfl rfl)⟩
        have hown := (j1.putObj (.deferred none) hK rfl).owns (base := w.heap.size) (by omega) (by rw [hol]; unfold maxLen; omega)
        exact Kd.R_of_own (by rw [hol] at hown ⊢; exact hown) (fun _ _ => trivial)
  case body =>
    rintro lp pre ⟨⟨k, hk⟩, ⟨i, hi⟩⟩ W ⟨⟨j1, j2, j3, j0⟩, hbW⟩ hlen
    simp only [frame2, List.setIfInBounds_toArray, List.set_cons_zero, List.set_cons_succ]
    have hi8 : i / 8 < nb := by omega
    have hi8' : (i : Int) / 8 < nb := by omega
    have hol := orBits_length nb pre
    obtain ⟨old, hold⟩ : ∃ old, (orBits nb pre).getD (i / 8) 0 = old := ⟨_, rfl⟩
    obtain ⟨new, hnew⟩ : ∃ new, bits .or .u8 old (maskI (i % 8)) = new := ⟨_, rfl⟩
    gi_wp2
    refine wpIn_region_phases 14 [.slice (some ⟨w2.heap.size, 0, none⟩) nb nb, .int .i64 i, masksV, .int .i64 8, .int .i64 ((i : Int) / 8), .pointer (some ⟨w2.heap.size, i / 8, none⟩), .int .u8 old, masksV, .int .i64 i, masksV, .int .i64 8, .int .i64 ((i : Int) % 8), .int .u8 (maskI (i % 8)), .int .u8 new]
      (fun W' => Below W.heap.size W W') (by kernel_rfl) (by kernel_rfl) rfl (Below.refl _ _).drew ?step ?tail
    case step =>
      intro W' hb
      have f1 : W'.cell? ⟨w2.heap.size + 1, 0, none⟩ = some (.slice (some ⟨w2.heap.size, 0, none⟩) nb nb) := (j2.below hb).cell 0
      have f2 : W'.cell? ⟨w2.heap.size, i / 8, none⟩ = some (.int .u8 old) := by
        rw [← hold]; exact ((j1.below hb).cell (i / 8)).trans (encV_getD _ 0 (by rw [hol]; exact hi8))
      have hb := Lib.hid hb
      have hmi : ∀ w, (Instr.index 82 masksV (.int .i64 ((i : Int) % 8))).run Try.prog w = .ok (.int .u8 (maskI (i % 8))) w := fun w => by
        rw [← masks_index (i % 8) (by omega) w]; rfl
      simp only [List.take_succ_cons, List.take_zero, AllIn, fillT, List.setIfInBounds_toArray, List.set_cons_zero, List.set_cons_succ]
      refine ⟨?_, ?_, ?_, ?_, ?_, ?_, ?_, ?_, ?_, ?_, ?_, ?_, ?_, ?_, trivial⟩
      all_goals
        gi_wp2_with (gi_at_call 48; refine (callsIn_wide.2 (masks_any _)).mono ?_; rintro e w' ⟨rfl, hbm⟩)
        first | exact ⟨rfl, hb.out⟩ | exact ⟨rfl, below_step hb.out hbm⟩
    case tail =>
      intro W' hb
      have f1 : W'.cell? ⟨w2.heap.size + 1, 0, none⟩ = some (.slice (some ⟨w2.heap.size, 0, none⟩) nb nb) := (j2.below hb).cell 0
      have f2 : W'.cell? ⟨w2.heap.size, i / 8, none⟩ = some (.int .u8 old) := by
        rw [← hold]; exact ((j1.below hb).cell (i / 8)).trans (encV_getD _ 0 (by rw [hol]; exact hi8))
      have f3 : W'.frozen? ⟨w2.heap.size, i / 8, none⟩ = false := (j1.below hb).frozen _
      have hb := Lib.hid hb
      simp only [List.take_succ_cons, List.take_zero, List.drop_succ_cons, List.drop_zero, fillT, List.setIfInBounds_toArray, List.set_cons_zero, List.set_cons_succ]
      have f4 : W'.cell? ⟨w.heap.size, 1, none⟩ = some (.int .i64 torn) := (j0.below hb.out).cell 1
      have f5 : W'.cell? ⟨w2.heap.size + 1 + 1, 0, none⟩ = some (.int .i64 (aheadOf torn pre)) := (j3.below hb.out).cell 0
      have f6 : W'.frozen? ⟨w2.heap.size + 1 + 1, 0, none⟩ = false := (j3.below hb.out).frozen 0
      have e1 : (encV (Value.int .u8) (orBits nb pre)).setIfInBounds (i / 8) (.int .u8 new) = encV (Value.int .u8) (orBits nb (pre ++ [(⟨k, hk⟩, ⟨i, hi⟩)])) := by
        rw [encV_set, orBits_snoc]; simp only [orStep]; rw [hold, hnew]
      have q1 : Blk (W'.setCell ⟨w2.heap.size, i / 8, none⟩ (.int .u8 new)) w2.heap.size 5 (encV (Value.int .u8) (orBits nb (pre ++ [(⟨k, hk⟩, ⟨i, hi⟩)]))) := by
        rw [← e1]; exact (j1.below hb.out).set _ _
      have q2 := (j2.below hb.out).stay (b := w2.heap.size) (o := i / 8) (by omega) (.int .u8 new)
      have q3 := (j3.below hb.out).stay (b := w2.heap.size) (o := i / 8) (by omega) (.int .u8 new)
      have q0 := (j0.below hb.out).stay (b := w2.heap.size) (o := i / 8) (by omega) (.int .u8 new)
      clear e1
      have n1 : ¬ w.heap.size = w2.heap.size := by omega
      have n2 : ¬ w2.heap.size = w.heap.size := by omega
      gi_wp2
      · have ht : (i : Int) = torn := beq_iff_eq.1 (by assumption)
        refine ⟨((keepsOthers_of_below hb.out).trans (KeepsOthers.setCell _ _ _)).trans (KeepsOthers.setCell _ _ _), ((hb.out.mono hbW.size).setCell (p := ⟨w2.heap.size, i / 8, none⟩) (by show _ ≤ w2.heap.size; omega) _).setCell (p := ⟨w2.heap.size + 1 + 1, 0, none⟩) (by show _ ≤ w2.heap.size + 1 + 1; omega) _, ⟨q1.stay (by omega) _, q2.stay (by omega) _, ?_, q0.stay (by omega) _⟩, ?_⟩
        · rw [aheadOf_snoc, if_pos ht]; exact q3.set 0 _
        · exact ((hbW.trans (hb.out.mono hbW.size)).setCell (p := ⟨w2.heap.size, i / 8, none⟩) (by show _ ≤ w2.heap.size; omega) _).setCell (p := ⟨w2.heap.size + 1 + 1, 0, none⟩) (by show _ ≤ w2.heap.size + 1 + 1; omega) _
      · have ht : ¬ (i : Int) = torn := beq_eq_false_iff_ne.1 (by assumption)
        refine ⟨(keepsOthers_of_below hb.out).trans (KeepsOthers.setCell _ _ _), (hb.out.mono hbW.size).setCell (p := ⟨w2.heap.size, i / 8, none⟩) (by show _ ≤ w2.heap.size; omega) _, ⟨q1, q2, ?_, q0⟩, ?_⟩
        · rw [aheadOf_snoc, if_neg ht]; exact q3
        · exact (hbW.trans (hb.out.mono hbW.size)).setCell (p := ⟨w2.heap.size, i / 8, none⟩) (by show _ ≤ w2.heap.size; omega) _
end Go.Proofs.Ytknibnbepmdapaa
