/- Functions of the laws as Lean functions, with their contracts: printed by a variant of the print program of the kit; the functions that it does not take are given by hand in the modules imported. -/
import Derived.Test.YtknibnbepmdapaaPFatex0
import Derived.Test.YtknibnbepmdapaaExt
namespace Go.Proofs.Ytknibnbepmdapaa.PFate
open Go.RowKit Go.Proofs.YtknibnbepmdapaaW.PrintWords Go.Proofs.YtknibnbepmdapaaW.PrintLast Go.Proofs.YtknibnbepmdapaaW.PrintMore
attribute [local go_sem] max2_int min2_int max_two min_two max_three min_three max_four min_four   -- for this text's walks alone
set_option linter.unusedVariables false
set_option linter.unusedSimpArgs false

/-! ### foyerref04_After: function 20 -/
mutual
def foyerref04_After.l0 : Nat → List (S43) → List ByteArray → Int → List Bool → Int → Int → Option (List ByteArray)
  | 0, _, _, _, _, _, _ => none
  | k + 1, x1, x7, x8, x402000, x402001, x402002 => if x8 < (x1.length : Int) then (foyerref04_After.j1 k x1 x7 x8 (decide (x8 < (x402000.length : Int))) x402000 x402001 x402002) else (foyerref04_After.j1 k x1 x7 x8 false x402000 x402001 x402002)
def foyerref04_After.j1 : Nat → List (S43) → List ByteArray → Int → Bool → List Bool → Int → Int → Option (List ByteArray)
  | 0, _, _, _, _, _, _, _ => none
  | k + 1, x1, x7, x8, x25, x402000, x402001, x402002 => if x25 = true then (if 0 ≤ x8 then (if x8 < (x1.length : Int) then (if x8 < (x402000.length : Int) then (if rdOf false x402000 x8 = true then (if ((rd_T43 x1 x8).f0) < 0 then (foyerref04_After.j2 k x1 x7 x8 ((rd_T43 x1 x8).f0) true x402000 x402001 x402002) else (if ((rd_T43 x1 x8).f0) ≥ (x7.length : Int) then (foyerref04_After.j2 k x1 x7 x8 ((rd_T43 x1 x8).f0) true x402000 x402001 x402002) else (foyerref04_After.j2 k x1 x7 x8 ((rd_T43 x1 x8).f0) ((((rd_T43 x1 x8).f1).size : Int) != 256) x402000 x402001 x402002))) else (foyerref04_After.j2 k x1 x7 x8 ((rd_T43 x1 x8).f0) true x402000 x402001 x402002)) else (none)) else (none)) else (none)) else (some x7)
def foyerref04_After.j2 : Nat → List (S43) → List ByteArray → Int → Int → Bool → List Bool → Int → Int → Option (List ByteArray)
  | 0, _, _, _, _, _, _, _, _ => none
  | k + 1, x1, x7, x8, x9, x57, x402000, x402001, x402002 => if x57 = true then (foyerref04_After.l0 k x1 x7 (wrap64 (x8 + 1)) x402000 x402001 x402002) else (foyerref04_After.l1 k x1 x7 x8 x9 (⟨#[]⟩ : ByteArray) 0 x402000 x402001 x402002)
def foyerref04_After.l1 : Nat → List (S43) → List ByteArray → Int → Int → ByteArray → Int → List Bool → Int → Int → Option (List ByteArray)
  | 0, _, _, _, _, _, _, _, _, _ => none
  | k + 1, x1, x7, x8, x9, x10, x11, x402000, x402001, x402002 => if x11 < 256 then (if x8 = x402001 then (if x11 ≥ x402002 then (if 0 ≤ x9 then (if x9 < (x7.length : Int) then (if 0 ≤ x11 then (if x11 ≤ (wrap64 (x11 + 1)) then (if (wrap64 (x11 + 1)) ≤ ((rdOf ByteArray.empty x7 x9).size : Int) then (if x10.size + ((rdOf ByteArray.empty x7 x9).extract (x11 : Int).toNat ((wrap64 (x11 + 1)) : Int).toNat).size ≤ 9223372036854775807 then (foyerref04_After.l1 k x1 x7 x8 x9 (x10 ++ ((rdOf ByteArray.empty x7 x9).extract (x11 : Int).toNat ((wrap64 (x11 + 1)) : Int).toNat)) (wrap64 (x11 + 1)) x402000 x402001 x402002) else (none)) else (none)) else (none)) else (none)) else (none)) else (none)) else (if 0 ≤ x8 then (if x8 < (x1.length : Int) then (if 0 ≤ x11 then (if x11 ≤ (wrap64 (x11 + 1)) then (if (wrap64 (x11 + 1)) ≤ (((rd_T43 x1 x8).f1).size : Int) then (if x10.size + (((rd_T43 x1 x8).f1).extract (x11 : Int).toNat ((wrap64 (x11 + 1)) : Int).toNat).size ≤ 9223372036854775807 then (foyerref04_After.l1 k x1 x7 x8 x9 (x10 ++ (((rd_T43 x1 x8).f1).extract (x11 : Int).toNat ((wrap64 (x11 + 1)) : Int).toNat)) (wrap64 (x11 + 1)) x402000 x402001 x402002) else (none)) else (none)) else (none)) else (none)) else (none)) else (none))) else (if 0 ≤ x8 then (if x8 < (x1.length : Int) then (if 0 ≤ x11 then (if x11 ≤ (wrap64 (x11 + 1)) then (if (wrap64 (x11 + 1)) ≤ (((rd_T43 x1 x8).f1).size : Int) then (if x10.size + (((rd_T43 x1 x8).f1).extract (x11 : Int).toNat ((wrap64 (x11 + 1)) : Int).toNat).size ≤ 9223372036854775807 then (foyerref04_After.l1 k x1 x7 x8 x9 (x10 ++ (((rd_T43 x1 x8).f1).extract (x11 : Int).toNat ((wrap64 (x11 + 1)) : Int).toNat)) (wrap64 (x11 + 1)) x402000 x402001 x402002) else (none)) else (none)) else (none)) else (none)) else (none)) else (none))) else (if 0 ≤ x9 then (if x9 < (x7.length : Int) then (foyerref04_After.l0 k x1 (x7.set (x9 : Int).toNat x10) (wrap64 (x8 + 1)) x402000 x402001 x402002) else (none)) else (none))
end
def foyerref04_After.f (k : Nat) (l0 : List ByteArray) (l1 : List (S43)) (l2_0 : List Bool) (a2_1 : Int) (a2_2 : Int) : Option (List ByteArray) := (some (([] : List ByteArray) : List ByteArray)).bind fun y402 => (if y402.length + l0.length < 8796093022208 then (foyerref04_After.l0 k l1 (y402 ++ l0) 0 l2_0 a2_1 a2_2) else (none))
theorem foyerref04_After.mono_l : ∀ k, (∀ y0 y1 y2 y3 y4 y5, LeO (foyerref04_After.l0 k y0 y1 y2 y3 y4 y5) (foyerref04_After.l0 (k + 1) y0 y1 y2 y3 y4 y5)) ∧ (∀ y0 y1 y2 y3 y4 y5 y6, LeO (foyerref04_After.j1 k y0 y1 y2 y3 y4 y5 y6) (foyerref04_After.j1 (k + 1) y0 y1 y2 y3 y4 y5 y6)) ∧ (∀ y0 y1 y2 y3 y4 y5 y6 y7, LeO (foyerref04_After.j2 k y0 y1 y2 y3 y4 y5 y6 y7) (foyerref04_After.j2 (k + 1) y0 y1 y2 y3 y4 y5 y6 y7)) ∧ (∀ y0 y1 y2 y3 y4 y5 y6 y7 y8, LeO (foyerref04_After.l1 k y0 y1 y2 y3 y4 y5 y6 y7 y8) (foyerref04_After.l1 (k + 1) y0 y1 y2 y3 y4 y5 y6 y7 y8))
  | 0 => ⟨fun _ _ _ _ _ _ r h => by simp [foyerref04_After.l0] at h, fun _ _ _ _ _ _ _ r h => by simp [foyerref04_After.j1] at h, fun _ _ _ _ _ _ _ _ r h => by simp [foyerref04_After.j2] at h, fun _ _ _ _ _ _ _ _ _ r h => by simp [foyerref04_After.l1] at h⟩
  | k + 1 => by
    obtain ⟨ih0, ih1, ih2, ih3⟩ := foyerref04_After.mono_l k
    refine ⟨?_, ?_, ?_, ?_⟩
    · intro y0 y1 y2 y3 y4 y5
      unfold foyerref04_After.l0
      repeat' first
      | (with_reducible exact ih0 _ _ _ _ _ _)
      | (with_reducible exact ih1 _ _ _ _ _ _ _)
      | (with_reducible exact ih2 _ _ _ _ _ _ _ _)
      | (with_reducible exact ih3 _ _ _ _ _ _ _ _ _)
      | (with_reducible exact LeO.refl _)
      | (with_reducible exact LeO.none _)
      | (with_reducible refine LeO.ite ?_ ?_)
      | (with_reducible refine LeO.bind ?_ (fun _ => ?_))
      | exact ih0 _ _ _ _ _ _
      | exact ih1 _ _ _ _ _ _ _
      | exact ih2 _ _ _ _ _ _ _ _
      | exact ih3 _ _ _ _ _ _ _ _ _
      | exact LeO.none _
      | refine LeO.ite ?_ ?_
      | refine LeO.bind ?_ (fun _ => ?_)
    · intro y0 y1 y2 y3 y4 y5 y6
      unfold foyerref04_After.j1
      repeat' first
      | (with_reducible exact ih0 _ _ _ _ _ _)
      | (with_reducible exact ih1 _ _ _ _ _ _ _)
      | (with_reducible exact ih2 _ _ _ _ _ _ _ _)
      | (with_reducible exact ih3 _ _ _ _ _ _ _ _ _)
      | (with_reducible exact LeO.refl _)
      | (with_reducible exact LeO.none _)
      | (with_reducible refine LeO.ite ?_ ?_)
      | (with_reducible refine LeO.bind ?_ (fun _ => ?_))
      | exact ih0 _ _ _ _ _ _
      | exact ih1 _ _ _ _ _ _ _
      | exact ih2 _ _ _ _ _ _ _ _
      | exact ih3 _ _ _ _ _ _ _ _ _
      | exact LeO.none _
      | refine LeO.ite ?_ ?_
      | refine LeO.bind ?_ (fun _ => ?_)
    · intro y0 y1 y2 y3 y4 y5 y6 y7
      unfold foyerref04_After.j2
      repeat' first
      | (with_reducible exact ih0 _ _ _ _ _ _)
      | (with_reducible exact ih1 _ _ _ _ _ _ _)
      | (with_reducible exact ih2 _ _ _ _ _ _ _ _)
      | (with_reducible exact ih3 _ _ _ _ _ _ _ _ _)
      | (with_reducible exact LeO.refl _)
      | (with_reducible exact LeO.none _)
      | (with_reducible refine LeO.ite ?_ ?_)
      | (with_reducible refine LeO.bind ?_ (fun _ => ?_))
      | exact ih0 _ _ _ _ _ _
      | exact ih1 _ _ _ _ _ _ _
      | exact ih2 _ _ _ _ _ _ _ _
      | exact ih3 _ _ _ _ _ _ _ _ _
      | exact LeO.none _
      | refine LeO.ite ?_ ?_
      | refine LeO.bind ?_ (fun _ => ?_)
    · intro y0 y1 y2 y3 y4 y5 y6 y7 y8
      unfold foyerref04_After.l1
      repeat' first
      | (with_reducible exact ih0 _ _ _ _ _ _)
      | (with_reducible exact ih1 _ _ _ _ _ _ _)
      | (with_reducible exact ih2 _ _ _ _ _ _ _ _)
      | (with_reducible exact ih3 _ _ _ _ _ _ _ _ _)
      | (with_reducible exact LeO.refl _)
      | (with_reducible exact LeO.none _)
      | (with_reducible refine LeO.ite ?_ ?_)
      | (with_reducible refine LeO.bind ?_ (fun _ => ?_))
      | exact ih0 _ _ _ _ _ _
      | exact ih1 _ _ _ _ _ _ _
      | exact ih2 _ _ _ _ _ _ _ _
      | exact ih3 _ _ _ _ _ _ _ _ _
      | exact LeO.none _
      | refine LeO.ite ?_ ?_
      | refine LeO.bind ?_ (fun _ => ?_)
theorem foyerref04_After.mono : ∀ a0 a1 a2 a3 a4 k, LeO (foyerref04_After.f k a0 a1 a2 a3 a4) (foyerref04_After.f (k + 1) a0 a1 a2 a3 a4) := by
  intro a0 a1 a2 a3 a4 k
  obtain ⟨ih0, ih1, ih2, ih3⟩ := foyerref04_After.mono_l k
  unfold foyerref04_After.f
  repeat' first
      | (with_reducible exact ih0 _ _ _ _ _ _)
      | (with_reducible exact ih1 _ _ _ _ _ _ _)
      | (with_reducible exact ih2 _ _ _ _ _ _ _ _)
      | (with_reducible exact ih3 _ _ _ _ _ _ _ _ _)
      | (with_reducible exact LeO.refl _)
      | (with_reducible exact LeO.none _)
      | (with_reducible refine LeO.ite ?_ ?_)
      | (with_reducible refine LeO.bind ?_ (fun _ => ?_))
      | exact ih0 _ _ _ _ _ _
      | exact ih1 _ _ _ _ _ _ _
      | exact ih2 _ _ _ _ _ _ _ _
      | exact ih3 _ _ _ _ _ _ _ _ _
      | exact LeO.none _
      | refine LeO.ite ?_ ?_
      | refine LeO.bind ?_ (fun _ => ?_)
set_option maxHeartbeats 8000000 in
set_option maxRecDepth 100000 in
theorem foyerref04_After.calls (k : Nat) (A0 : Option Addr) (c0 : Nat) (l0 : List ByteArray) (A1 : Option Addr) (c1 : Nat) (l1 : List (S43)) (A2_0 : Option Addr) (c2_0 : Nat) (l2_0 : List Bool) (a2_1 : Int) (a2_2 : Int) (r : List ByteArray) (w : World) (hr0 : Kd.C Kd.string w A0 l0.length l0) (hc0 : l0.length ≤ c0) (hr1 : Kd.C k43 w A1 l1.length l1) (hc1 : l1.length ≤ c1) (hr2_0 : Kd.C Kd.bool w A2_0 l2_0.length l2_0) (hc2_0 : l2_0.length ≤ c2_0) (h : foyerref04_After.f k l0 l1 l2_0 a2_1 a2_2 = some r) :
    Calls Try.prog 20 #[.slice A0 l0.length c0, .slice A1 l1.length c1, .agg #[.slice A2_0 l2_0.length c2_0, .int .i64 a2_1, .int .i64 a2_2]] w fun e w' => ∃ v0_ : Value, e = .returned (v0_) ∧ Kd.R Kd.string 9 w' w.heap.size (fun _ => True) v0_ r ∧ Below w.heap.size w w' := by
  have hu24 := Try.underlying24
  have HR0 := Aside0.mk hr0
  have HC0 := Aside0.mk hc0
  clear hr0 hc0
  have HR1 := Aside0.mk hr1
  have HC1 := Aside0.mk hc1
  clear hr1 hc1
  have HR2_0 := Aside0.mk hr2_0
  have HC2_0 := Aside0.mk hc2_0
  clear hr2_0 hc2_0
  have HB := Aside0.mk (Below.refl w.heap.size w)
  have H : ((some (([] : List ByteArray) : List ByteArray)).bind fun y402 => (if y402.length + l0.length < 8796093022208 then (foyerref04_After.l0 k l1 (y402 ++ l0) 0 l2_0 a2_1 a2_2) else (none))) = some r := h
  clear h
  obtain ⟨y402, hy402⟩ : ∃ y_ : List ByteArray, y_ = (([] : List ByteArray)) := ⟨_, rfl⟩
  replace H : (if y402.length + l0.length < 8796093022208 then (foyerref04_After.l0 k l1 (y402 ++ l0) 0 l2_0 a2_1 a2_2) else (none)) = some r := by first | (rw [hy402]; with_reducible exact H) | (have H2_ := (Option.bind_some _ _).symm.trans H; rw [hy402]; with_reducible exact H2_) | (have H2_ := (Option.bind_some _ _).symm.trans H; with_reducible exact H2_) | with_reducible exact H | (rw [hy402]; exact H) | exact H
  have Ny402 := Aside0.mk hy402
  clear hy402
  by_cases c4 : y402.length + l0.length < 8796093022208
  · rw [if_pos c4] at H
    have LMc4 := Aside0.mk c4
    clear c4
    obtain ⟨y405, hy405⟩ : ∃ y_ : List ByteArray, y_ = (y402 ++ l0) := ⟨_, rfl⟩
    replace H : (foyerref04_After.l0 k l1 y405 0 l2_0 a2_1 a2_2) = some r := by first | (rw [hy405]; with_reducible exact H) | (have H2_ := (Option.bind_some _ _).symm.trans H; rw [hy405]; with_reducible exact H2_) | (have H2_ := (Option.bind_some _ _).symm.trans H; with_reducible exact H2_) | with_reducible exact H | (rw [hy405]; exact H) | exact H
    have Ny405 := Aside0.mk hy405
    clear hy405
    have H' := Aside0.mk H
    clear H
    go_enter Try.func20, Try.ntmps20
    go_wp2_with (first | ((with_reducible refine gate_dst (N := 5) rfl ?_); (try (refine gate_guard (by rfl) ?_; dsimp only)); refine box_event ?hg (N := 5) ?hd (cs := #[.slice A2_0 l2_0.length c2_0, .int .i64 a2_1, .int .i64 a2_2]) (t := 24) ?hr ?_; (case hd => rfl); (case hg => rfl); (case hr => first | (go_simp; done) | (go_simp; rfl)); intro gb401 hg w5 hbox hb; have n0_ := Aside0.mk (below_step (by repeat (first | (with_reducible first | exact HB.out | apply below_alloc | apply pw_below_drewN | apply below_drew1) | exact HB.out)) hb); have n1_ := Aside0.mk (hbox); have n2_ := Aside0.mk ((by rw [hg]; exact (below_size (by repeat (first | (with_reducible first | exact HB.out | apply below_alloc | apply pw_below_drewN | apply below_drew1) | exact HB.out))) : w.heap.size ≤ gb401)); have n3_ := Aside0.mk ((by rw [hg]; exact (below_size (by repeat (first | (with_reducible first | exact HB.out | apply below_alloc | apply pw_below_drewN | apply below_drew1) | exact HB.out))) : w.heap.size ≤ gb401)); clear HB; have HB := n0_; have BK401 := n1_; have GW401 := n2_; have GE401 := n3_; clear n0_ n1_ n2_ n3_; clear hb hbox hg) | ((with_reducible refine gate_dst (N := 12) rfl ?_); (try (refine gate_guard (by rfl) ?_; dsimp only)); refine Kd.R_lit Kd.string _ 9 ?hg (N := 12) ?hd (xs := ([] : List ByteArray)) (inner := []) (ok := fun _ => True) (okp := fun _ => True) ?hr ?hp (fun _ hk => hk) trivial (Below.refl _ _) (Nat.le_refl _) (by simp) ?_; (case hd => rfl); (case hg => rfl); (case hr => first | (go_simp; done) | (go_simp; rfl)); (case hp => exact (Reps.none _ _)); intro v403 w6 ho7 hb hg_ hnew_; clear hg_ hnew_; (first | rw [← Ny402.out] at ho7 | (simp only [Int.reduceToNat] at ho7; rw [← Ny402.out] at ho7)); have n0_ := Aside0.mk (Kd.R_lower ho7 (below_size (by repeat (first | (with_reducible first | exact HB.out | apply below_alloc | apply pw_below_drewN | apply below_drew1 | refine below_set ?_ GE401.out) | exact HB.out)))); have n1_ := Aside0.mk (blk_below (g := gb401) (o := .cells #[.slice A2_0 l2_0.length c2_0, .int .i64 a2_1, .int .i64 a2_2] 24 (0, 0)) (by (with_reducible repeat (first | refine blk_drewN ?_ _ | refine blk_drew ?_ | refine blk_alloc ?_ _)); exact BK401.out) hb); have n2_ := Aside0.mk (below_step (by repeat (first | (with_reducible first | exact HB.out | apply below_alloc | apply pw_below_drewN | apply below_drew1 | refine below_set ?_ GE401.out) | exact HB.out)) hb); clear BK401; clear HB; have HO404 := n0_; have BK401 := n1_; have HB := n2_; clear n0_ n1_ n2_; clear hb ho7) | ((with_reducible refine gate_builtin (b := .append) (xs := #[.tmp 12, .tmp 13]) rfl ?_); (try (refine gate_guard (by rfl) ?_; dsimp only)); at_builtin; refine Kd.R_append_rows Kd.string (w0 := w) w.heap.size rfl (.tmp 12) (.tmp 13) 33 9 (.string ⟨#[]⟩) 16 rfl Try.underlying33 info9 rfl (by decide) (by omega) v403 y402 l0 _ _ _ (fun _ => True) (fun _ => False) rfl rfl ?aO ?aR (fun _ _ h => h) (fun _ h => h.elim) ?aF ?aB ?aS ?aL ?_; (case aR => repeat (first | exact (Kd.C_below HR0.out HB.out) | (with_reducible refine Kd.C_alloc ?_ _) | (with_reducible refine Kd.C_drewN ?_ _) | (with_reducible refine Kd.C_drew ?_))); (case aB => exact (by repeat (first | (with_reducible first | exact HB.out | apply below_alloc | apply pw_below_drewN | apply below_drew1 | refine below_set ?_ GE401.out) | exact HB.out))); (case aF => exact (fun _ _ => trivial)); (case aO => exact (by (with_reducible repeat (first | apply Kd.R_alloc | apply Kd.R_drewN | apply Kd.R_drew)); exact HO404.out)); (case aS => exact (below_size (by repeat (first | (with_reducible first | exact HB.out | apply below_alloc | apply pw_below_drewN | apply below_drew1 | refine below_set ?_ GE401.out) | exact HB.out)))); (case aL => have := LMc4.out; omega); intro v406 w8 ho hb hg hat; rw [← Ny405.out] at ho; have n0_ := Aside0.mk (blk_grown (g := gb401) (o := .cells #[.slice A2_0 l2_0.length c2_0, .int .i64 a2_1, .int .i64 a2_2] 24 (0, 0)) (by (with_reducible repeat (first | refine blk_drewN ?_ _ | refine blk_drew ?_ | refine blk_alloc ?_ _)); exact BK401.out) hg (Kd.R_ne HO404.out BK401.out (by decide))); have n1_ := Aside0.mk (hb); have n2_ := Aside0.mk (ho); clear BK401; clear HB; clear HO404; have BK401 := n0_; have HB := n1_; have HO407 := n2_; clear n0_ n1_ n2_; clear ho hb hg hat))
    go_loopg [8] k (fun kq v8 w' => ∃ (x7_1 : List ByteArray) (x8_1 : Int), v8 = .int .i64 x8_1 ∧ Aside0 (foyerref04_After.l0 kq l1 x7_1 x8_1 l2_0 a2_1 a2_2 = some r) ∧ Aside0 (kq ≤ k) ∧ Aside0 (Kd.R Kd.string 9 w' w.heap.size (fun _ => True) v406 x7_1) ∧ Aside0 (w'.heap[gb401]? = some (.cells #[(.slice A2_0 l2_0.length c2_0), .int .i64 a2_1, .int .i64 a2_2] 24 (0, 0))) ∧ Aside0 (Below w.heap.size w w'))
    case atStart => exact ⟨(y405), (0), (by first | rfl | (simp; done) | (simp [*]; done)), H', ⟨Nat.le_refl _⟩, ⟨by (with_reducible repeat (first | apply Kd.R_alloc | apply Kd.R_drewN | apply Kd.R_drew)); exact HO407.out⟩, ⟨by (with_reducible repeat (first | refine blk_drewN ?_ _ | refine blk_drew ?_ | refine blk_alloc ?_ _)); exact BK401.out⟩, ⟨by repeat (first | (with_reducible first | exact HB.out | apply below_alloc | apply pw_below_drewN | apply below_drew1 | refine below_set ?_ GE401.out) | exact HB.out)⟩⟩
    case round =>
      clear H'
      try clear c1
      try clear c2
      try clear p2
      try clear c4
      obtain ⟨x7_1, x8_1, rfl, HA, HK1, HO_7, BK401, HB⟩ := hrel
      cases gk with
      | zero => exact absurd HA.out (by simp [foyerref04_After.l0])
      | succ k1 =>
        have H := HA.out
        clear HA
        simp only [foyerref04_After.l0] at H
        have HC9 := Aside0.mk H
        clear H
        go_upto_region 3 with (fail)
        go_cut [25] (fun v25 wc => ∃ (kq : Nat) (x25_8 : Bool), v25 = .bool x25_8 ∧ Aside0 (foyerref04_After.j1 kq l1 x7_1 x8_1 x25_8 l2_0 a2_1 a2_2 = some r) ∧ Aside0 (kq ≤ k1) ∧ Aside0 (Kd.R Kd.string 9 wc w.heap.size (fun _ => True) v406 x7_1) ∧ Aside0 (wc.heap[gb401]? = some (.cells #[(.slice A2_0 l2_0.length c2_0), .int .i64 a2_1, .int .i64 a2_2] 24 (0, 0))) ∧ Aside0 (Below w.heap.size w wc))
        case first =>
          have H := HC9.out
          clear HC9
          by_cases c10 : x8_1 < (l1.length : Int)
          · rw [if_pos c10] at H
            have c10b0 : decide (x8_1 < (l1.length : Int)) = true := decide_eq_true c10
            clear c10
            (first | rw [c10b0] | (simp only [i64_w, i32_w]; rw [c10b0]) | skip)
            have H' := Aside0.mk H
            clear H
            have hcz11_0 : wr.cell? ⟨gb401, 0, none⟩ = some (.slice A2_0 l2_0.length c2_0) := (blk_cell BK401.out 0).trans rfl
            have hcz11_1 : wr.cell? ⟨gb401, 1, none⟩ = some (.int .i64 a2_1) := (blk_cell BK401.out 1).trans rfl
            have hcz11_2 : wr.cell? ⟨gb401, 2, none⟩ = some (.int .i64 a2_2) := (blk_cell BK401.out 2).trans rfl
            have hfz11_0 := blk_frozen BK401.out 0
            have hfz11_1 := blk_frozen BK401.out 1
            have hfz11_2 := blk_frozen BK401.out 2
            go_wp2
            go_meet
            case rel => exact ⟨_, (decide (x8_1 < (l2_0.length : Int))), (by first | rfl | (simp; done) | (simp [*]; done)), H', ⟨by have := HK1.out; first | omega | exact Nat.le_refl _⟩, ⟨by (with_reducible repeat (first | apply Kd.R_alloc | apply Kd.R_drewN | apply Kd.R_drew)); exact HO_7.out⟩, ⟨by (with_reducible repeat (first | refine blk_drewN ?_ _ | refine blk_drew ?_ | refine blk_alloc ?_ _)); exact BK401.out⟩, ⟨by repeat (first | (with_reducible first | exact HB.out | apply below_alloc | apply pw_below_drewN | apply below_drew1 | refine below_set ?_ GE401.out) | exact HB.out)⟩⟩
          · rw [if_neg c10] at H
            have c10b0 : decide (x8_1 < (l1.length : Int)) = false := decide_eq_false c10
            clear c10
            (first | rw [c10b0] | (simp only [i64_w, i32_w]; rw [c10b0]) | skip)
            have H' := Aside0.mk H
            clear H
            go_wp2
            go_meet
            case rel => exact ⟨_, (false), (by first | rfl | (simp; done) | (simp [*]; done)), H', ⟨by have := HK1.out; first | omega | exact Nat.le_refl _⟩, ⟨by (with_reducible repeat (first | apply Kd.R_alloc | apply Kd.R_drewN | apply Kd.R_drew)); exact HO_7.out⟩, ⟨by (with_reducible repeat (first | refine blk_drewN ?_ _ | refine blk_drew ?_ | refine blk_alloc ?_ _)); exact BK401.out⟩, ⟨by repeat (first | (with_reducible first | exact HB.out | apply below_alloc | apply pw_below_drewN | apply below_drew1 | refine below_set ?_ GE401.out) | exact HB.out)⟩⟩
        case rest =>
          clear HC9
          try clear c1
          try clear c2
          try clear p2
          try clear c4
          try clear c10
          try clear c10b0
          try clear hcz11_0
          try clear hcz11_1
          try clear hcz11_2
          try clear hfz11_0
          try clear hfz11_1
          try clear hfz11_2
          try clear p2
          obtain ⟨kq, x25_8, rfl, HA, HJ8, HO_7, BK401, HB⟩ := hcut
          cases kq with
          | zero => exact absurd HA.out (by simp [foyerref04_After.j1])
          | succ kj8 =>
            have H := HA.out
            clear HA
            simp only [foyerref04_After.j1] at H
            by_cases c12 : x25_8 = true
            · subst c12
              have H1 : (if 0 ≤ x8_1 then (if x8_1 < (l1.length : Int) then (if x8_1 < (l2_0.length : Int) then (if rdOf false l2_0 x8_1 = true then (if ((rd_T43 l1 x8_1).f0) < 0 then (foyerref04_After.j2 kj8 l1 x7_1 x8_1 ((rd_T43 l1 x8_1).f0) true l2_0 a2_1 a2_2) else (if ((rd_T43 l1 x8_1).f0) ≥ (x7_1.length : Int) then (foyerref04_After.j2 kj8 l1 x7_1 x8_1 ((rd_T43 l1 x8_1).f0) true l2_0 a2_1 a2_2) else (foyerref04_After.j2 kj8 l1 x7_1 x8_1 ((rd_T43 l1 x8_1).f0) ((((rd_T43 l1 x8_1).f1).size : Int) != 256) l2_0 a2_1 a2_2))) else (foyerref04_After.j2 kj8 l1 x7_1 x8_1 ((rd_T43 l1 x8_1).f0) true l2_0 a2_1 a2_2)) else (none)) else (none)) else (none)) = some r := by rw [if_pos rfl] at H; exact H
              clear H
              have H := H1
              clear H1
              by_cases c13 : 0 ≤ x8_1
              · rw [if_pos c13] at H
                have c13b0 : decide (0 ≤ x8_1) = true := decide_eq_true c13
                clear c13
                by_cases c14 : x8_1 < (l1.length : Int)
                · rw [if_pos c14] at H
                  have c14b0 : decide (x8_1 < (l1.length : Int)) = true := decide_eq_true c14
                  clear c14
                  have HC15 := Aside0.mk H
                  clear H
                  have p408 : 0 ≤ (x8_1 : Int) := of_decide_eq_true (by first | (with_reducible assumption) | assumption)
                  have q408 : x8_1 < (l1.length : Int) := of_decide_eq_true (by first | (with_reducible assumption) | assumption)
                  obtain ⟨ad408, e408, hx408_0, hx408_1⟩ := at_T43 HR1.out x8_1 p408 q408
                  cases e408
                  replace hx408_0 := (HB.out.cell (World.block_lt_of_cell? w _ hx408_0)).trans hx408_0
                  replace hx408_1 := (HB.out.cell (World.block_lt_of_cell? w _ hx408_1)).trans hx408_1
                  replace p408 := eq_true p408
                  replace q408 := eq_true q408
                  go_upto_region 6 with (fail)
                  go_cut [57] (fun v57 wc => ∃ (kq : Nat) (x57_14 : Bool), v57 = .bool x57_14 ∧ Aside0 (foyerref04_After.j2 kq l1 x7_1 x8_1 ((rd_T43 l1 x8_1).f0) x57_14 l2_0 a2_1 a2_2 = some r) ∧ Aside0 (kq ≤ kj8) ∧ Aside0 (Kd.R Kd.string 9 wc w.heap.size (fun _ => True) v406 x7_1) ∧ Aside0 (wc.heap[gb401]? = some (.cells #[(.slice A2_0 l2_0.length c2_0), .int .i64 a2_1, .int .i64 a2_2] 24 (0, 0))) ∧ Aside0 (Below w.heap.size w wc))
                  case first =>
                    have H := HC15.out
                    clear HC15
                    by_cases c16 : x8_1 < (l2_0.length : Int)
                    · rw [if_pos c16] at H
                      have c16b0 : decide (x8_1 < (l2_0.length : Int)) = true := decide_eq_true c16
                      clear c16
                      (first | rw [c16b0] | (simp only [i64_w, i32_w]; rw [c16b0]) | skip)
                      obtain ⟨bq17, hbq17⟩ : ∃ b_ : Bool, b_ = (rdOf false l2_0 x8_1) := ⟨_, rfl⟩
                      replace H : (if bq17 = true then (if ((rd_T43 l1 x8_1).f0) < 0 then (foyerref04_After.j2 kj8 l1 x7_1 x8_1 ((rd_T43 l1 x8_1).f0) true l2_0 a2_1 a2_2) else (if ((rd_T43 l1 x8_1).f0) ≥ (x7_1.length : Int) then (foyerref04_After.j2 kj8 l1 x7_1 x8_1 ((rd_T43 l1 x8_1).f0) true l2_0 a2_1 a2_2) else (foyerref04_After.j2 kj8 l1 x7_1 x8_1 ((rd_T43 l1 x8_1).f0) ((((rd_T43 l1 x8_1).f1).size : Int) != 256) l2_0 a2_1 a2_2))) else (foyerref04_After.j2 kj8 l1 x7_1 x8_1 ((rd_T43 l1 x8_1).f0) true l2_0 a2_1 a2_2)) = some r := by rw [← hbq17] at H; exact H
                      have Nbq17 := Aside0.mk hbq17
                      clear hbq17
                      by_cases c18 : bq17 = true
                      · subst c18
                        have H1 : (if ((rd_T43 l1 x8_1).f0) < 0 then (foyerref04_After.j2 kj8 l1 x7_1 x8_1 ((rd_T43 l1 x8_1).f0) true l2_0 a2_1 a2_2) else (if ((rd_T43 l1 x8_1).f0) ≥ (x7_1.length : Int) then (foyerref04_After.j2 kj8 l1 x7_1 x8_1 ((rd_T43 l1 x8_1).f0) true l2_0 a2_1 a2_2) else (foyerref04_After.j2 kj8 l1 x7_1 x8_1 ((rd_T43 l1 x8_1).f0) ((((rd_T43 l1 x8_1).f1).size : Int) != 256) l2_0 a2_1 a2_2))) = some r := by rw [if_pos rfl] at H; exact H
                        clear H
                        have H := H1
                        clear H1
                        by_cases c19 : ((rd_T43 l1 x8_1).f0) < 0
                        · rw [if_pos c19] at H
                          have c19b0 : decide (((rd_T43 l1 x8_1).f0) < 0) = true := decide_eq_true c19
                          clear c19
                          have H' := Aside0.mk H
                          clear H
                          have hcz20_0 : wc.cell? ⟨gb401, 0, none⟩ = some (.slice A2_0 l2_0.length c2_0) := (blk_cell BK401.out 0).trans rfl
                          have hcz20_1 : wc.cell? ⟨gb401, 1, none⟩ = some (.int .i64 a2_1) := (blk_cell BK401.out 1).trans rfl
                          have hcz20_2 : wc.cell? ⟨gb401, 2, none⟩ = some (.int .i64 a2_2) := (blk_cell BK401.out 2).trans rfl
                          have hfz20_0 := blk_frozen BK401.out 0
                          have hfz20_1 := blk_frozen BK401.out 1
                          have hfz20_2 := blk_frozen BK401.out 2
                          have p409 : 0 ≤ (x8_1 : Int) := of_decide_eq_true (by first | (with_reducible assumption) | assumption)
                          have q409 : x8_1 < (l2_0.length : Int) := of_decide_eq_true (by first | (with_reducible assumption) | assumption)
                          obtain ⟨ad409, e409, hx409_0⟩ := Kd.at_bool HR2_0.out x8_1 p409 q409
                          (try rw [← Nbq17.out] at hx409_0)
                          cases e409
                          replace hx409_0 := (HB.out.cell (World.block_lt_of_cell? w _ hx409_0)).trans hx409_0
                          replace p409 := eq_true p409
                          replace q409 := eq_true q409
                          go_wp2
                          go_meet
                          case rel => exact ⟨_, (true), (by first | rfl | (simp; done) | (simp [*]; done)), H', ⟨by have := HK1.out; have := HJ8.out; first | omega | exact Nat.le_refl _⟩, ⟨by (with_reducible repeat (first | apply Kd.R_alloc | apply Kd.R_drewN | apply Kd.R_drew)); exact HO_7.out⟩, ⟨by (with_reducible repeat (first | refine blk_drewN ?_ _ | refine blk_drew ?_ | refine blk_alloc ?_ _)); exact BK401.out⟩, ⟨by repeat (first | (with_reducible first | exact HB.out | apply below_alloc | apply pw_below_drewN | apply below_drew1 | refine below_set ?_ GE401.out) | exact HB.out)⟩⟩
                        · rw [if_neg c19] at H
                          have c19b0 : decide (((rd_T43 l1 x8_1).f0) < 0) = false := decide_eq_false c19
                          clear c19
                          by_cases c21 : ((rd_T43 l1 x8_1).f0) ≥ (x7_1.length : Int)
                          · rw [if_pos c21] at H
                            have c21b0 : decide ((x7_1.length : Int) ≤ ((rd_T43 l1 x8_1).f0)) = true := decide_eq_true c21
                            clear c21
                            have H' := Aside0.mk H
                            clear H
                            have hcz22_0 : wc.cell? ⟨gb401, 0, none⟩ = some (.slice A2_0 l2_0.length c2_0) := (blk_cell BK401.out 0).trans rfl
                            have hcz22_1 : wc.cell? ⟨gb401, 1, none⟩ = some (.int .i64 a2_1) := (blk_cell BK401.out 1).trans rfl
                            have hcz22_2 : wc.cell? ⟨gb401, 2, none⟩ = some (.int .i64 a2_2) := (blk_cell BK401.out 2).trans rfl
                            have hfz22_0 := blk_frozen BK401.out 0
                            have hfz22_1 := blk_frozen BK401.out 1
                            have hfz22_2 := blk_frozen BK401.out 2
                            have p409 : 0 ≤ (x8_1 : Int) := of_decide_eq_true (by first | (with_reducible assumption) | assumption)
                            have q409 : x8_1 < (l2_0.length : Int) := of_decide_eq_true (by first | (with_reducible assumption) | assumption)
                            obtain ⟨ad409, e409, hx409_0⟩ := Kd.at_bool HR2_0.out x8_1 p409 q409
                            (try rw [← Nbq17.out] at hx409_0)
                            cases e409
                            replace hx409_0 := (HB.out.cell (World.block_lt_of_cell? w _ hx409_0)).trans hx409_0
                            replace p409 := eq_true p409
                            replace q409 := eq_true q409
                            obtain ⟨Ao23, co23, eo23⟩ := Kd.R_slice HO_7.out
                            subst eo23
                            go_wp2
                            go_meet
                            case rel => exact ⟨_, (true), (by first | rfl | (simp; done) | (simp [*]; done)), H', ⟨by have := HK1.out; have := HJ8.out; first | omega | exact Nat.le_refl _⟩, ⟨by (with_reducible repeat (first | apply Kd.R_alloc | apply Kd.R_drewN | apply Kd.R_drew)); exact HO_7.out⟩, ⟨by (with_reducible repeat (first | refine blk_drewN ?_ _ | refine blk_drew ?_ | refine blk_alloc ?_ _)); exact BK401.out⟩, ⟨by repeat (first | (with_reducible first | exact HB.out | apply below_alloc | apply pw_below_drewN | apply below_drew1 | refine below_set ?_ GE401.out) | exact HB.out)⟩⟩
                          · rw [if_neg c21] at H
                            have c21b0 : decide ((x7_1.length : Int) ≤ ((rd_T43 l1 x8_1).f0)) = false := decide_eq_false c21
                            clear c21
                            have H' := Aside0.mk H
                            clear H
                            have hcz24_0 : wc.cell? ⟨gb401, 0, none⟩ = some (.slice A2_0 l2_0.length c2_0) := (blk_cell BK401.out 0).trans rfl
                            have hcz24_1 : wc.cell? ⟨gb401, 1, none⟩ = some (.int .i64 a2_1) := (blk_cell BK401.out 1).trans rfl
                            have hcz24_2 : wc.cell? ⟨gb401, 2, none⟩ = some (.int .i64 a2_2) := (blk_cell BK401.out 2).trans rfl
                            have hfz24_0 := blk_frozen BK401.out 0
                            have hfz24_1 := blk_frozen BK401.out 1
                            have hfz24_2 := blk_frozen BK401.out 2
                            have p409 : 0 ≤ (x8_1 : Int) := of_decide_eq_true (by first | (with_reducible assumption) | assumption)
                            have q409 : x8_1 < (l2_0.length : Int) := of_decide_eq_true (by first | (with_reducible assumption) | assumption)
                            obtain ⟨ad409, e409, hx409_0⟩ := Kd.at_bool HR2_0.out x8_1 p409 q409
                            (try rw [← Nbq17.out] at hx409_0)
                            cases e409
                            replace hx409_0 := (HB.out.cell (World.block_lt_of_cell? w _ hx409_0)).trans hx409_0
                            replace p409 := eq_true p409
                            replace q409 := eq_true q409
                            obtain ⟨Ao25, co25, eo25⟩ := Kd.R_slice HO_7.out
                            subst eo25
                            have p410 : 0 ≤ (x8_1 : Int) := of_decide_eq_true (by first | (with_reducible assumption) | assumption)
                            have q410 : x8_1 < (l1.length : Int) := of_decide_eq_true (by first | (with_reducible assumption) | assumption)
                            obtain ⟨ad410, e410, hx410_0, hx410_1⟩ := at_T43 HR1.out x8_1 p410 q410
                            obtain rfl : ad408 = ad410 := (by injection e410)
                            replace hx410_0 := (HB.out.cell (World.block_lt_of_cell? w _ hx410_0)).trans hx410_0
                            replace hx410_1 := (HB.out.cell (World.block_lt_of_cell? w _ hx410_1)).trans hx410_1
                            replace p410 := eq_true p410
                            replace q410 := eq_true q410
                            go_wp2
                            go_meet
                            case rel => exact ⟨_, (((((rd_T43 l1 x8_1).f1).size : Int) != 256)), (by first | rfl | (simp; done) | (simp [*]; done)), H', ⟨by have := HK1.out; have := HJ8.out; first | omega | exact Nat.le_refl _⟩, ⟨by (with_reducible repeat (first | apply Kd.R_alloc | apply Kd.R_drewN | apply Kd.R_drew)); exact HO_7.out⟩, ⟨by (with_reducible repeat (first | refine blk_drewN ?_ _ | refine blk_drew ?_ | refine blk_alloc ?_ _)); exact BK401.out⟩, ⟨by repeat (first | (with_reducible first | exact HB.out | apply below_alloc | apply pw_below_drewN | apply below_drew1 | refine below_set ?_ GE401.out) | exact HB.out)⟩⟩
                      · replace c18 := Bool.eq_false_iff.mpr c18
                        subst c18
                        have H1 : (foyerref04_After.j2 kj8 l1 x7_1 x8_1 ((rd_T43 l1 x8_1).f0) true l2_0 a2_1 a2_2) = some r := by rw [if_neg (show ¬ (false = true) by decide)] at H; exact H
                        clear H
                        have H := H1
                        clear H1
                        have H' := Aside0.mk H
                        clear H
                        have hcz26_0 : wc.cell? ⟨gb401, 0, none⟩ = some (.slice A2_0 l2_0.length c2_0) := (blk_cell BK401.out 0).trans rfl
                        have hcz26_1 : wc.cell? ⟨gb401, 1, none⟩ = some (.int .i64 a2_1) := (blk_cell BK401.out 1).trans rfl
                        have hcz26_2 : wc.cell? ⟨gb401, 2, none⟩ = some (.int .i64 a2_2) := (blk_cell BK401.out 2).trans rfl
                        have hfz26_0 := blk_frozen BK401.out 0
                        have hfz26_1 := blk_frozen BK401.out 1
                        have hfz26_2 := blk_frozen BK401.out 2
                        have p409 : 0 ≤ (x8_1 : Int) := of_decide_eq_true (by first | (with_reducible assumption) | assumption)
                        have q409 : x8_1 < (l2_0.length : Int) := of_decide_eq_true (by first | (with_reducible assumption) | assumption)
                        obtain ⟨ad409, e409, hx409_0⟩ := Kd.at_bool HR2_0.out x8_1 p409 q409
                        (try rw [← Nbq17.out] at hx409_0)
                        cases e409
                        replace hx409_0 := (HB.out.cell (World.block_lt_of_cell? w _ hx409_0)).trans hx409_0
                        replace p409 := eq_true p409
                        replace q409 := eq_true q409
                        go_wp2
                        go_meet
                        case rel => exact ⟨_, (true), (by first | rfl | (simp; done) | (simp [*]; done)), H', ⟨by have := HK1.out; have := HJ8.out; first | omega | exact Nat.le_refl _⟩, ⟨by (with_reducible repeat (first | apply Kd.R_alloc | apply Kd.R_drewN | apply Kd.R_drew)); exact HO_7.out⟩, ⟨by (with_reducible repeat (first | refine blk_drewN ?_ _ | refine blk_drew ?_ | refine blk_alloc ?_ _)); exact BK401.out⟩, ⟨by repeat (first | (with_reducible first | exact HB.out | apply below_alloc | apply pw_below_drewN | apply below_drew1 | refine below_set ?_ GE401.out) | exact HB.out)⟩⟩
                    · rw [if_neg c16] at H
                      exact absurd H (by simp)
                  case rest =>
                    clear HC15
                    try clear c1
                    try clear q1
                    try clear c2
                    try clear p2
                    try clear c4
                    try clear p4
                    try clear q4
                    try clear hx4
                    try clear c10
                    try clear c10b0
                    try clear c12
                    try clear c13
                    try clear c13b0
                    try clear c14
                    try clear c14b0
                    try clear c16
                    try clear c16b0
                    try clear q17
                    try clear c18
                    try clear c19
                    try clear c19b0
                    try clear c20
                    try clear c21
                    try clear c21b0
                    try clear hcz11_0
                    try clear hcz11_1
                    try clear hcz11_2
                    try clear hcz20_0
                    try clear hcz20_1
                    try clear hcz20_2
                    try clear hcz22_0
                    try clear hcz22_1
                    try clear hcz22_2
                    try clear hcz24_0
                    try clear hcz24_1
                    try clear hcz24_2
                    try clear hcz26_0
                    try clear hcz26_1
                    try clear hcz26_2
                    try clear hfz11_0
                    try clear hfz11_1
                    try clear hfz11_2
                    try clear hfz20_0
                    try clear hfz20_1
                    try clear hfz20_2
                    try clear hfz22_0
                    try clear hfz22_1
                    try clear hfz22_2
                    try clear hfz24_0
                    try clear hfz24_1
                    try clear hfz24_2
                    try clear hfz26_0
                    try clear hfz26_1
                    try clear hfz26_2
                    try clear hx408_0
                    try clear hx408_1
                    try clear hx409_0
                    try clear hx410_0
                    try clear hx410_1
                    try clear p2
                    try clear p408
                    try clear p409
                    try clear p410
                    try clear q408
                    try clear q409
                    try clear q410
                    obtain ⟨kq, x57_14, rfl, HA, HJ14, HO_7, BK401, HB⟩ := hcut
                    cases kq with
                    | zero => exact absurd HA.out (by simp [foyerref04_After.j2])
                    | succ kj14 =>
                      have H := HA.out
                      clear HA
                      simp only [foyerref04_After.j2] at H
                      by_cases c27 : x57_14 = true
                      · subst c27
                        have H1 : (foyerref04_After.l0 kj14 l1 x7_1 (wrap64 (x8_1 + 1)) l2_0 a2_1 a2_2) = some r := by rw [if_pos rfl] at H; exact H
                        clear H
                        have H := H1
                        clear H1
                        have H' := Aside0.mk H
                        clear H
                        go_wp2
                        go_roundg kj14
                        case measure => have := HK1.out; have := HJ8.out; have := HJ14.out; omega
                        case rel => exact ⟨(x7_1), (wrap64 (x8_1 + 1)), (by first | rfl | (simp; done) | (simp [*]; done)), H', ⟨by have := HK1.out; have := HJ8.out; have := HJ14.out; omega⟩, ⟨by (with_reducible repeat (first | apply Kd.R_alloc | apply Kd.R_drewN | apply Kd.R_drew)); exact HO_7.out⟩, ⟨by (with_reducible repeat (first | refine blk_drewN ?_ _ | refine blk_drew ?_ | refine blk_alloc ?_ _)); exact BK401.out⟩, ⟨by repeat (first | (with_reducible first | exact HB.out | apply below_alloc | apply pw_below_drewN | apply below_drew1 | refine below_set ?_ GE401.out) | exact HB.out)⟩⟩
                      · replace c27 := Bool.eq_false_iff.mpr c27
                        subst c27
                        have H1 : (foyerref04_After.l1 kj14 l1 x7_1 x8_1 ((rd_T43 l1 x8_1).f0) (⟨#[]⟩ : ByteArray) 0 l2_0 a2_1 a2_2) = some r := by rw [if_neg (show ¬ (false = true) by decide)] at H; exact H
                        clear H
                        have H := H1
                        clear H1
                        have H' := Aside0.mk H
                        clear H
                        go_wp2
                        go_loopg [10, 11] kj14 (fun kq v10 v11 w' => ∃ (x10_4 : ByteArray) (x11_4 : Int), v10 = .string x10_4 ∧ v11 = .int .i64 x11_4 ∧ Aside0 (foyerref04_After.l1 kq l1 x7_1 x8_1 ((rd_T43 l1 x8_1).f0) x10_4 x11_4 l2_0 a2_1 a2_2 = some r) ∧ Aside0 (kq ≤ kj14) ∧ Aside0 (Kd.R Kd.string 9 w' w.heap.size (fun _ => True) v406 x7_1) ∧ Aside0 (w'.heap[gb401]? = some (.cells #[(.slice A2_0 l2_0.length c2_0), .int .i64 a2_1, .int .i64 a2_2] 24 (0, 0))) ∧ Aside0 (Below w.heap.size w w'))
                        case atStart => exact ⟨((⟨#[]⟩ : ByteArray)), (0), (by first | rfl | (simp; done) | (simp [*]; done)), (by first | rfl | (simp; done) | (simp [*]; done)), H', ⟨Nat.le_refl _⟩, ⟨by (with_reducible repeat (first | apply Kd.R_alloc | apply Kd.R_drewN | apply Kd.R_drew)); exact HO_7.out⟩, ⟨by (with_reducible repeat (first | refine blk_drewN ?_ _ | refine blk_drew ?_ | refine blk_alloc ?_ _)); exact BK401.out⟩, ⟨by repeat (first | (with_reducible first | exact HB.out | apply below_alloc | apply pw_below_drewN | apply below_drew1 | refine below_set ?_ GE401.out) | exact HB.out)⟩⟩
                        case round =>
                          clear H'
                          try clear c1
                          try clear q1
                          try clear c2
                          try clear p2
                          try clear c4
                          try clear p4
                          try clear q4
                          try clear hx4
                          try clear p6
                          try clear c10
                          try clear c10b0
                          try clear c12
                          try clear c13
                          try clear c13b0
                          try clear c14
                          try clear c14b0
                          try clear c16
                          try clear c16b0
                          try clear q17
                          try clear c18
                          try clear c19
                          try clear c19b0
                          try clear c20
                          try clear c21
                          try clear c21b0
                          try clear c27
                          try clear hcz11_0
                          try clear hcz11_1
                          try clear hcz11_2
                          try clear hcz20_0
                          try clear hcz20_1
                          try clear hcz20_2
                          try clear hcz22_0
                          try clear hcz22_1
                          try clear hcz22_2
                          try clear hcz24_0
                          try clear hcz24_1
                          try clear hcz24_2
                          try clear hcz26_0
                          try clear hcz26_1
                          try clear hcz26_2
                          try clear hfz11_0
                          try clear hfz11_1
                          try clear hfz11_2
                          try clear hfz20_0
                          try clear hfz20_1
                          try clear hfz20_2
                          try clear hfz22_0
                          try clear hfz22_1
                          try clear hfz22_2
                          try clear hfz24_0
                          try clear hfz24_1
                          try clear hfz24_2
                          try clear hfz26_0
                          try clear hfz26_1
                          try clear hfz26_2
                          try clear hx408_0
                          try clear hx408_1
                          try clear hx409_0
                          try clear hx410_0
                          try clear hx410_1
                          try clear p2
                          try clear p4
                          try clear p408
                          try clear p409
                          try clear p410
                          try clear q1
                          try clear q17
                          try clear q4
                          try clear q408
                          try clear q409
                          try clear q410
                          obtain ⟨x10_4, x11_4, rfl, rfl, HA, HK4, HO_7, BK401, HB⟩ := hrel
                          cases gk with
                          | zero => exact absurd HA.out (by simp [foyerref04_After.l1])
                          | succ k4 =>
                            have H := HA.out
                            clear HA
                            simp only [foyerref04_After.l1] at H
                            by_cases c28 : x11_4 < 256
                            · rw [if_pos c28] at H
                              have c28b0 : decide (x11_4 < 256) = true := decide_eq_true c28
                              clear c28
                              by_cases c29 : x8_1 = a2_1
                              · rw [if_pos c29] at H
                                have c29b0 : (x8_1 == a2_1) = true := beq_iff_eq.mpr c29
                                have c29b1 : (x8_1 != a2_1) = false := bne_eq_false_iff_eq.mpr c29
                                clear c29
                                by_cases c30 : x11_4 ≥ a2_2
                                · rw [if_pos c30] at H
                                  have c30b0 : decide (a2_2 ≤ x11_4) = true := decide_eq_true c30
                                  clear c30
                                  by_cases c31 : 0 ≤ ((rd_T43 l1 x8_1).f0)
                                  · rw [if_pos c31] at H
                                    have c31b0 : decide (0 ≤ ((rd_T43 l1 x8_1).f0)) = true := decide_eq_true c31
                                    clear c31
                                    by_cases c32 : ((rd_T43 l1 x8_1).f0) < (x7_1.length : Int)
                                    · rw [if_pos c32] at H
                                      have c32b0 : decide (((rd_T43 l1 x8_1).f0) < (x7_1.length : Int)) = true := decide_eq_true c32
                                      clear c32
                                      by_cases c33 : 0 ≤ x11_4
                                      · rw [if_pos c33] at H
                                        have c33b0 := eq_true c33
                                        have c33b1 : decide (0 ≤ x11_4) = true := decide_eq_true c33
                                        clear c33
                                        by_cases c34 : x11_4 ≤ (wrap64 (x11_4 + 1))
                                        · rw [if_pos c34] at H
                                          have c34b0 := eq_true c34
                                          have c34b1 : decide (x11_4 ≤ (wrap64 (x11_4 + 1))) = true := decide_eq_true c34
                                          by_cases c35 : (wrap64 (x11_4 + 1)) ≤ ((rdOf ByteArray.empty x7_1 ((rd_T43 l1 x8_1).f0)).size : Int)
                                          · rw [if_pos c35] at H
                                            have c35b0 := eq_true c35
                                            have c35b1 : decide ((wrap64 (x11_4 + 1)) ≤ ((rdOf ByteArray.empty x7_1 ((rd_T43 l1 x8_1).f0)).size : Int)) = true := decide_eq_true c35
                                            by_cases c36 : x10_4.size + ((rdOf ByteArray.empty x7_1 ((rd_T43 l1 x8_1).f0)).extract (x11_4 : Int).toNat ((wrap64 (x11_4 + 1)) : Int).toNat).size ≤ 9223372036854775807
                                            · rw [if_pos c36] at H
                                              have c36b0 := eq_true c36
                                              have c36b1 : decide (x10_4.size + ((rdOf ByteArray.empty x7_1 ((rd_T43 l1 x8_1).f0)).extract (x11_4 : Int).toNat ((wrap64 (x11_4 + 1)) : Int).toNat).size ≤ 9223372036854775807) = true := decide_eq_true c36
                                              try have c36b2 : (9223372036854775807 < x10_4.size + ((rdOf ByteArray.empty x7_1 ((rd_T43 l1 x8_1).f0)).extract (x11_4 : Int).toNat ((wrap64 (x11_4 + 1)) : Int).toNat).size) = False := eq_false (Nat.not_lt.2 c36)
                                              have H' := Aside0.mk H
                                              clear H
                                              have hcz37_0 : wr.cell? ⟨gb401, 0, none⟩ = some (.slice A2_0 l2_0.length c2_0) := (blk_cell BK401.out 0).trans rfl
                                              have hcz37_1 : wr.cell? ⟨gb401, 1, none⟩ = some (.int .i64 a2_1) := (blk_cell BK401.out 1).trans rfl
                                              have hcz37_2 : wr.cell? ⟨gb401, 2, none⟩ = some (.int .i64 a2_2) := (blk_cell BK401.out 2).trans rfl
                                              have hfz37_0 := blk_frozen BK401.out 0
                                              have hfz37_1 := blk_frozen BK401.out 1
                                              have hfz37_2 := blk_frozen BK401.out 2
                                              obtain ⟨Ao38, co38, eo38⟩ := Kd.R_slice HO_7.out
                                              subst eo38
                                              have p411 : 0 ≤ (((rd_T43 l1 x8_1).f0) : Int) := of_decide_eq_true (by first | (with_reducible assumption) | assumption)
                                              have q411 : ((rd_T43 l1 x8_1).f0) < (x7_1.length : Int) := of_decide_eq_true (by first | (with_reducible assumption) | assumption)
                                              obtain ⟨ad411, e411, hx411_0⟩ := Kd.at_string (Kd.R_reads' HO_7.out).2.2 ((rd_T43 l1 x8_1).f0) p411 q411
                                              cases e411
                                              replace p411 := eq_true p411
                                              replace q411 := eq_true q411
                                              go_wp2
                                              go_roundg k4
                                              case measure => have := HK1.out; have := HJ8.out; have := HJ14.out; have := HK4.out; omega
                                              case rel => exact ⟨(x10_4 ++ ((rdOf ByteArray.empty x7_1 ((rd_T43 l1 x8_1).f0)).extract (x11_4 : Int).toNat ((wrap64 (x11_4 + 1)) : Int).toNat)), (wrap64 (x11_4 + 1)), (by first | rfl | (simp; done) | (simp [*]; done)), (by first | rfl | (simp; done) | (simp [*]; done)), H', ⟨by have := HK1.out; have := HJ8.out; have := HJ14.out; have := HK4.out; omega⟩, ⟨by (with_reducible repeat (first | apply Kd.R_alloc | apply Kd.R_drewN | apply Kd.R_drew)); exact HO_7.out⟩, ⟨by (with_reducible repeat (first | refine blk_drewN ?_ _ | refine blk_drew ?_ | refine blk_alloc ?_ _)); exact BK401.out⟩, ⟨by repeat (first | (with_reducible first | exact HB.out | apply below_alloc | apply pw_below_drewN | apply below_drew1 | refine below_set ?_ GE401.out) | exact HB.out)⟩⟩
                                            · rw [if_neg c36] at H
                                              exact absurd H (by simp)
                                          · rw [if_neg c35] at H
                                            exact absurd H (by simp)
                                        · rw [if_neg c34] at H
                                          exact absurd H (by simp)
                                      · rw [if_neg c33] at H
                                        exact absurd H (by simp)
                                    · rw [if_neg c32] at H
                                      exact absurd H (by simp)
                                  · rw [if_neg c31] at H
                                    exact absurd H (by simp)
                                · rw [if_neg c30] at H
                                  have c30b0 : decide (a2_2 ≤ x11_4) = false := decide_eq_false c30
                                  clear c30
                                  by_cases c39 : 0 ≤ x8_1
                                  · rw [if_pos c39] at H
                                    have c39b0 : decide (0 ≤ x8_1) = true := decide_eq_true c39
                                    clear c39
                                    by_cases c40 : x8_1 < (l1.length : Int)
                                    · rw [if_pos c40] at H
                                      have c40b0 : decide (x8_1 < (l1.length : Int)) = true := decide_eq_true c40
                                      clear c40
                                      by_cases c41 : 0 ≤ x11_4
                                      · rw [if_pos c41] at H
                                        have c41b0 := eq_true c41
                                        have c41b1 : decide (0 ≤ x11_4) = true := decide_eq_true c41
                                        clear c41
                                        by_cases c42 : x11_4 ≤ (wrap64 (x11_4 + 1))
                                        · rw [if_pos c42] at H
                                          have c42b0 := eq_true c42
                                          have c42b1 : decide (x11_4 ≤ (wrap64 (x11_4 + 1))) = true := decide_eq_true c42
                                          by_cases c43 : (wrap64 (x11_4 + 1)) ≤ (((rd_T43 l1 x8_1).f1).size : Int)
                                          · rw [if_pos c43] at H
                                            have c43b0 := eq_true c43
                                            have c43b1 : decide ((wrap64 (x11_4 + 1)) ≤ (((rd_T43 l1 x8_1).f1).size : Int)) = true := decide_eq_true c43
                                            by_cases c44 : x10_4.size + (((rd_T43 l1 x8_1).f1).extract (x11_4 : Int).toNat ((wrap64 (x11_4 + 1)) : Int).toNat).size ≤ 9223372036854775807
                                            · rw [if_pos c44] at H
                                              have c44b0 := eq_true c44
                                              have c44b1 : decide (x10_4.size + (((rd_T43 l1 x8_1).f1).extract (x11_4 : Int).toNat ((wrap64 (x11_4 + 1)) : Int).toNat).size ≤ 9223372036854775807) = true := decide_eq_true c44
                                              try have c44b2 : (9223372036854775807 < x10_4.size + (((rd_T43 l1 x8_1).f1).extract (x11_4 : Int).toNat ((wrap64 (x11_4 + 1)) : Int).toNat).size) = False := eq_false (Nat.not_lt.2 c44)
                                              have H' := Aside0.mk H
                                              clear H
                                              have hcz45_0 : wr.cell? ⟨gb401, 0, none⟩ = some (.slice A2_0 l2_0.length c2_0) := (blk_cell BK401.out 0).trans rfl
                                              have hcz45_1 : wr.cell? ⟨gb401, 1, none⟩ = some (.int .i64 a2_1) := (blk_cell BK401.out 1).trans rfl
                                              have hcz45_2 : wr.cell? ⟨gb401, 2, none⟩ = some (.int .i64 a2_2) := (blk_cell BK401.out 2).trans rfl
                                              have hfz45_0 := blk_frozen BK401.out 0
                                              have hfz45_1 := blk_frozen BK401.out 1
                                              have hfz45_2 := blk_frozen BK401.out 2
                                              have p412 : 0 ≤ (x8_1 : Int) := of_decide_eq_true (by first | (with_reducible assumption) | assumption)
                                              have q412 : x8_1 < (l1.length : Int) := of_decide_eq_true (by first | (with_reducible assumption) | assumption)
                                              obtain ⟨ad412, e412, hx412_0, hx412_1⟩ := at_T43 HR1.out x8_1 p412 q412
                                              obtain rfl : ad408 = ad412 := (by injection e412)
                                              replace hx412_0 := (HB.out.cell (World.block_lt_of_cell? w _ hx412_0)).trans hx412_0
                                              replace hx412_1 := (HB.out.cell (World.block_lt_of_cell? w _ hx412_1)).trans hx412_1
                                              replace p412 := eq_true p412
                                              replace q412 := eq_true q412
                                              go_wp2
                                              go_roundg k4
                                              case measure => have := HK1.out; have := HJ8.out; have := HJ14.out; have := HK4.out; omega
                                              case rel => exact ⟨(x10_4 ++ (((rd_T43 l1 x8_1).f1).extract (x11_4 : Int).toNat ((wrap64 (x11_4 + 1)) : Int).toNat)), (wrap64 (x11_4 + 1)), (by first | rfl | (simp; done) | (simp [*]; done)), (by first | rfl | (simp; done) | (simp [*]; done)), H', ⟨by have := HK1.out; have := HJ8.out; have := HJ14.out; have := HK4.out; omega⟩, ⟨by (with_reducible repeat (first | apply Kd.R_alloc | apply Kd.R_drewN | apply Kd.R_drew)); exact HO_7.out⟩, ⟨by (with_reducible repeat (first | refine blk_drewN ?_ _ | refine blk_drew ?_ | refine blk_alloc ?_ _)); exact BK401.out⟩, ⟨by repeat (first | (with_reducible first | exact HB.out | apply below_alloc | apply pw_below_drewN | apply below_drew1 | refine below_set ?_ GE401.out) | exact HB.out)⟩⟩
                                            · rw [if_neg c44] at H
                                              exact absurd H (by simp)
                                          · rw [if_neg c43] at H
                                            exact absurd H (by simp)
                                        · rw [if_neg c42] at H
                                          exact absurd H (by simp)
                                      · rw [if_neg c41] at H
                                        exact absurd H (by simp)
                                    · rw [if_neg c40] at H
                                      exact absurd H (by simp)
                                  · rw [if_neg c39] at H
                                    exact absurd H (by simp)
                              · rw [if_neg c29] at H
                                have c29b0 : (x8_1 == a2_1) = false := beq_eq_false_iff_ne.mpr c29
                                have c29b1 : (x8_1 != a2_1) = true := bne_iff_ne.mpr c29
                                by_cases c46 : 0 ≤ x8_1
                                · rw [if_pos c46] at H
                                  have c46b0 : decide (0 ≤ x8_1) = true := decide_eq_true c46
                                  clear c46
                                  by_cases c47 : x8_1 < (l1.length : Int)
                                  · rw [if_pos c47] at H
                                    have c47b0 : decide (x8_1 < (l1.length : Int)) = true := decide_eq_true c47
                                    clear c47
                                    by_cases c48 : 0 ≤ x11_4
                                    · rw [if_pos c48] at H
                                      have c48b0 := eq_true c48
                                      have c48b1 : decide (0 ≤ x11_4) = true := decide_eq_true c48
                                      clear c48
                                      by_cases c49 : x11_4 ≤ (wrap64 (x11_4 + 1))
                                      · rw [if_pos c49] at H
                                        have c49b0 := eq_true c49
                                        have c49b1 : decide (x11_4 ≤ (wrap64 (x11_4 + 1))) = true := decide_eq_true c49
                                        by_cases c50 : (wrap64 (x11_4 + 1)) ≤ (((rd_T43 l1 x8_1).f1).size : Int)
                                        · rw [if_pos c50] at H
                                          have c50b0 := eq_true c50
                                          have c50b1 : decide ((wrap64 (x11_4 + 1)) ≤ (((rd_T43 l1 x8_1).f1).size : Int)) = true := decide_eq_true c50
                                          by_cases c51 : x10_4.size + (((rd_T43 l1 x8_1).f1).extract (x11_4 : Int).toNat ((wrap64 (x11_4 + 1)) : Int).toNat).size ≤ 9223372036854775807
                                          · rw [if_pos c51] at H
                                            have c51b0 := eq_true c51
                                            have c51b1 : decide (x10_4.size + (((rd_T43 l1 x8_1).f1).extract (x11_4 : Int).toNat ((wrap64 (x11_4 + 1)) : Int).toNat).size ≤ 9223372036854775807) = true := decide_eq_true c51
                                            try have c51b2 : (9223372036854775807 < x10_4.size + (((rd_T43 l1 x8_1).f1).extract (x11_4 : Int).toNat ((wrap64 (x11_4 + 1)) : Int).toNat).size) = False := eq_false (Nat.not_lt.2 c51)
                                            have H' := Aside0.mk H
                                            clear H
                                            have hcz52_0 : wr.cell? ⟨gb401, 0, none⟩ = some (.slice A2_0 l2_0.length c2_0) := (blk_cell BK401.out 0).trans rfl
                                            have hcz52_1 : wr.cell? ⟨gb401, 1, none⟩ = some (.int .i64 a2_1) := (blk_cell BK401.out 1).trans rfl
                                            have hcz52_2 : wr.cell? ⟨gb401, 2, none⟩ = some (.int .i64 a2_2) := (blk_cell BK401.out 2).trans rfl
                                            have hfz52_0 := blk_frozen BK401.out 0
                                            have hfz52_1 := blk_frozen BK401.out 1
                                            have hfz52_2 := blk_frozen BK401.out 2
                                            have p413 : 0 ≤ (x8_1 : Int) := of_decide_eq_true (by first | (with_reducible assumption) | assumption)
                                            have q413 : x8_1 < (l1.length : Int) := of_decide_eq_true (by first | (with_reducible assumption) | assumption)
                                            obtain ⟨ad413, e413, hx413_0, hx413_1⟩ := at_T43 HR1.out x8_1 p413 q413
                                            obtain rfl : ad408 = ad413 := (by injection e413)
                                            replace hx413_0 := (HB.out.cell (World.block_lt_of_cell? w _ hx413_0)).trans hx413_0
                                            replace hx413_1 := (HB.out.cell (World.block_lt_of_cell? w _ hx413_1)).trans hx413_1
                                            replace p413 := eq_true p413
                                            replace q413 := eq_true q413
                                            go_wp2
                                            go_roundg k4
                                            case measure => have := HK1.out; have := HJ8.out; have := HJ14.out; have := HK4.out; omega
                                            case rel => exact ⟨(x10_4 ++ (((rd_T43 l1 x8_1).f1).extract (x11_4 : Int).toNat ((wrap64 (x11_4 + 1)) : Int).toNat)), (wrap64 (x11_4 + 1)), (by first | rfl | (simp; done) | (simp [*]; done)), (by first | rfl | (simp; done) | (simp [*]; done)), H', ⟨by have := HK1.out; have := HJ8.out; have := HJ14.out; have := HK4.out; omega⟩, ⟨by (with_reducible repeat (first | apply Kd.R_alloc | apply Kd.R_drewN | apply Kd.R_drew)); exact HO_7.out⟩, ⟨by (with_reducible repeat (first | refine blk_drewN ?_ _ | refine blk_drew ?_ | refine blk_alloc ?_ _)); exact BK401.out⟩, ⟨by repeat (first | (with_reducible first | exact HB.out | apply below_alloc | apply pw_below_drewN | apply below_drew1 | refine below_set ?_ GE401.out) | exact HB.out)⟩⟩
                                          · rw [if_neg c51] at H
                                            exact absurd H (by simp)
                                        · rw [if_neg c50] at H
                                          exact absurd H (by simp)
                                      · rw [if_neg c49] at H
                                        exact absurd H (by simp)
                                    · rw [if_neg c48] at H
                                      exact absurd H (by simp)
                                  · rw [if_neg c47] at H
                                    exact absurd H (by simp)
                                · rw [if_neg c46] at H
                                  exact absurd H (by simp)
                            · rw [if_neg c28] at H
                              have c28b0 : decide (x11_4 < 256) = false := decide_eq_false c28
                              clear c28
                              by_cases c53 : 0 ≤ ((rd_T43 l1 x8_1).f0)
                              · rw [if_pos c53] at H
                                have c53b0 : decide (0 ≤ ((rd_T43 l1 x8_1).f0)) = true := decide_eq_true c53
                                clear c53
                                by_cases c54 : ((rd_T43 l1 x8_1).f0) < (x7_1.length : Int)
                                · rw [if_pos c54] at H
                                  have c54b0 : decide (((rd_T43 l1 x8_1).f0) < (x7_1.length : Int)) = true := decide_eq_true c54
                                  clear c54
                                  obtain ⟨y414, hy414⟩ : ∃ y_ : List ByteArray, y_ = (x7_1.set (((rd_T43 l1 x8_1).f0) : Int).toNat x10_4) := ⟨_, rfl⟩
                                  replace H : (foyerref04_After.l0 k4 l1 y414 (wrap64 (x8_1 + 1)) l2_0 a2_1 a2_2) = some r := by first | (rw [hy414]; with_reducible exact H) | (have H2_ := (Option.bind_some _ _).symm.trans H; rw [hy414]; with_reducible exact H2_) | (have H2_ := (Option.bind_some _ _).symm.trans H; with_reducible exact H2_) | with_reducible exact H | (rw [hy414]; exact H) | exact H
                                  have Ny414 := Aside0.mk hy414
                                  clear hy414
                                  have H' := Aside0.mk H
                                  clear H
                                  have p55 : 0 ≤ (((rd_T43 l1 x8_1).f0) : Int) := of_decide_eq_true (by first | (with_reducible assumption) | assumption)
                                  have q55 : (((rd_T43 l1 x8_1).f0) : Int) < ((x7_1.length : Int) : Int) := of_decide_eq_true (by first | (with_reducible assumption) | assumption)
                                  obtain ⟨go55, co55, eo55, gb55, gl55, cl55, HG55⟩ := Kd.R_form HO_7.out (by omega)
                                  (first | cases eo55 | (injection eo55 with ea_ en_ ec_; (first | subst ea_ | (injection ea_ with ea_; subst ea_)); subst ec_; clear en_))
                                  have GB55 := Aside0.mk gb55
                                  have GG55 := Aside0.mk HG55
                                  clear gb55 gl55 HG55
                                  obtain ⟨hx55_0, hf55_0⟩ := Kd.R_celln (⟨#[]⟩ : ByteArray) HO_7.out (((rd_T43 l1 x8_1).f0) : Int) p55 q55
                                  replace p55 := eq_true p55
                                  replace q55 := eq_true q55
                                  have HP56 := Kd.R_putg HO_7.out (((rd_T43 l1 x8_1).f0) : Int) x10_4
                                  go_wp2_with (first | ((with_reducible refine gate_store (t := 9) (p := 96) rfl ?_); refine store_event (t := 9) (p := 96) (v := ?vo_w57) (w1 := (wr.setCell ⟨go55, (((rd_T43 l1 x8_1).f0) : Int).toNat, none⟩ (.string x10_4))) ?hg ?ho ?hn ?hr ?_; (case ho => rfl); (case hg => rfl); (case hn => rfl); (case hr => first | (go_simp; done) | (go_simp; rfl)); intro w57 hw; have hg : wr.grownBy w57 (some go55) := (by rw [hw]; exact HP56.2); have hp_ : Kd.R Kd.string 9 w57 w.heap.size (fun _ => True) (.slice (some ⟨go55, 0, none⟩) x7_1.length co55) y414 := (by rw [hw, Ny414.out]; exact HP56.1); clear HP56; have n0_ := Aside0.mk (hp_); have n1_ := Aside0.mk (blk_grown (g := gb401) (o := .cells #[.slice A2_0 l2_0.length c2_0, .int .i64 a2_1, .int .i64 a2_2] 24 (0, 0)) (by (with_reducible repeat (first | refine blk_drewN ?_ _ | refine blk_drew ?_ | refine blk_alloc ?_ _)); exact BK401.out) hg (Kd.R_ne HO_7.out BK401.out (by decide))); have n2_ := Aside0.mk ((by rw [hw]; exact below_set (HB.out) GB55.out : Below w.heap.size w w57)); clear HO_7; clear BK401; clear HB; have HO_7 := n0_; have BK401 := n1_; have HB := n2_; clear n0_ n1_ n2_; clear hg hw hp_))
                                  go_roundg k4
                                  case measure => have := HK1.out; have := HJ8.out; have := HJ14.out; have := HK4.out; omega
                                  case rel => exact ⟨(y414), (wrap64 (x8_1 + 1)), (by first | rfl | (simp; done) | (simp [*]; done)), H', ⟨by have := HK1.out; have := HJ8.out; have := HJ14.out; have := HK4.out; omega⟩, ⟨by (with_reducible repeat (first | apply Kd.R_alloc | apply Kd.R_drewN | apply Kd.R_drew)); exact HO_7.out⟩, ⟨by (with_reducible repeat (first | refine blk_drewN ?_ _ | refine blk_drew ?_ | refine blk_alloc ?_ _)); exact BK401.out⟩, ⟨by repeat (first | (with_reducible first | exact HB.out | apply below_alloc | apply pw_below_drewN | apply below_drew1 | refine below_set ?_ GE401.out) | exact HB.out)⟩⟩
                                · rw [if_neg c54] at H
                                  exact absurd H (by simp)
                              · rw [if_neg c53] at H
                                exact absurd H (by simp)
                · rw [if_neg c14] at H
                  exact absurd H (by simp)
              · rw [if_neg c13] at H
                exact absurd H (by simp)
            · replace c12 := Bool.eq_false_iff.mpr c12
              subst c12
              have H1 : (some x7_1) = some r := by rw [if_neg (show ¬ (false = true) by decide)] at H; exact H
              clear H
              have H := H1
              clear H1
              obtain rfl := Option.some.inj H
              go_wp2
              go_ret
              exact ⟨_, by first | rfl | (simp [errW_none, errW_some] <;> rfl) | (simp [*, errW_none, errW_some] <;> rfl), by (with_reducible repeat (first | apply Kd.R_alloc | apply Kd.R_drewN | apply Kd.R_drew)); exact HO_7.out, by repeat (first | (with_reducible first | exact HB.out | apply below_alloc | apply pw_below_drewN | apply below_drew1 | refine below_set ?_ GE401.out) | exact HB.out)⟩
  · rw [if_neg c4] at H
    exact absurd H (by simp)

-- NOT PRINTED: function 4 (foyerlaw04_FateAfters)

end Go.Proofs.Ytknibnbepmdapaa.PFate
