/-
DiskPlays: the walk of its body.
-/
import Derived.Test.YtknibnbepmdapaaEe
namespace Go.Proofs.Ytknibnbepmdapaa
open Go.RowKit Go.Shelf Go.Proofs.YtknibnbepmdapaaW.PrintWords Go.Proofs.Ytknibnbepmdapaa.PFate Go.ChangeMaps Go.Maps
attribute [local go_sem] Oper.semAt_some

set_option maxRecDepth 100000 in
theorem plays_none (n : Int) (hn : n < 64 ∨ 1024 < n) (v : Value) (w : World) : CallsIn Fence.wide 9 Try.prog 11 #[.int .i64 n, v] w fun e w' => e = .returned (.bool true) ∧ Below w.heap.size w w' := by
  have hF : ∀ f, Fence.wide.fn f := fun _ => trivial
  refine callsIn_of_wp Try.func11 rfl (hF _) ?_ rfl
  simp only [Try.ntmps11, List.size_toArray, List.length_cons, List.length_nil, Nat.reduceAdd, Nat.reduceSub, Array.replicate_succ, Array.replicate_zero, List.push_toArray, List.append_toArray, List.nil_append, List.cons_append]
  gi_wp2_with fail
  refine (callsIn_wide.2 (new_none n w hn)).mono ?_
  rintro e W' ⟨rfl, rfl⟩
  gi_wp2_with fail
  refine (callsIn_wide.2 (refNew_none n _ hn)).mono ?_
  rintro e W' ⟨rfl, rfl⟩
  gi_wp2_with fail
  refine (callsIn_wide.2 (works5_calls _)).mono ?_
  rintro e y9 ⟨rfl, hb9⟩
  gi_wp2
  exact ⟨rfl, _, results_tmp rfl _ _ _, rfl, hb9⟩

set_option maxRecDepth 100000 in
set_option maxHeartbeats 8000000 in
theorem plays_some (n : Nat) (hn : 64 ≤ n ∧ n ≤ 1024) (A : Option Addr) (c : Nat) (L : List A73) (w : World) (hA : ActsAt w A L) (hL : ∀ x ∈ L, x.In) (hmax : L.length ≤ 9223372036854775807) :
    CallsIn Fence.wide 9 Try.prog 11 #[.int .i64 n, .slice A L.length c] w fun e w' => e = .returned (.bool true) ∧ Below w.heap.size w w' := by
  have hF : ∀ f, Fence.wide.fn f := fun _ => trivial
  refine callsIn_of_wp Try.func11 rfl (hF _) ?_ rfl
  simp only [Try.ntmps11, List.size_toArray, List.length_cons, List.length_nil, Nat.reduceAdd, Nat.reduceSub, Array.replicate_succ, Array.replicate_zero, List.push_toArray, List.append_toArray, List.nil_append, List.cons_append]
  gi_wp2_with fail
  refine (callsIn_wide.2 (new_calls n w hn)).mono ?_
  rintro e w1 ⟨d, Fd, rfl, hD, hFd, hb1⟩
  gi_wp2_with fail
  refine (callsIn_wide.2 (refNew_calls n w1 hn)).mono ?_
  rintro e w2 ⟨r, Fr, rfl, hR, hFr, hb2⟩
  obtain ⟨hn1, hn2⟩ := hn
  have hT : Two [] w w2 d r (DS.new n) (DS.new n) := ⟨Fd, Fr, hD.below hb2, hR, fun k h1 h2 => by have := hD.lt k h1; have := hFr k h2; omega, hFd, fun k h => by have := hFr k h; have := hb1.size; omega, below_then hb1 hb1.size hb2, fun p hp => by cases hp⟩
  clear hD hR hFd hFr hb1 hb2
  have hG := Good.new n
  gi_wp2_with fail
  gi_loopw [7] (fun u wr => ∃ (i : Nat) (s : DS), i ≤ 60 ∧ i ≤ L.length ∧ u = .int .i64 (i : Int) ∧ Two [] w wr d r s s ∧ Good s n i)
    (fun u _ => 60 - (intOf u).toNat)
  case atStart => exact ⟨0, _, by omega, Nat.zero_le _, rfl, hT, hG⟩
  case round =>
    clear hT hG
    obtain ⟨i, s, hi60, hiL, rfl, hT, hGs⟩ := hrel
    rcases (by omega : (i < L.length ∧ i < 60) ∨ (i < L.length ∧ i = 60) ∨ i = L.length) with ⟨hil, hi6⟩ | ⟨hil, rfl⟩ | hil
    · have hil' : (i : Int) < L.length := by omega
      have hi6' : (i : Int) < 60 := by omega
      have hi0 : 0 ≤ (i : Int) := by omega
      obtain ⟨ad, hAd, a0, a1, a2, a3, Ac, cc, a4, hlc, hCc⟩ := hA i L[i] (List.getElem?_eq_getElem hil)
      obtain ⟨hwh, hse, hlet, hnn, hby⟩ := hL _ (List.getElem_mem hil)
      generalize L[i] = x at *
      subst hAd
      have hbW := hT.base
      have hadl := World.block_lt_of_cell? _ _ a0
      have b0 := (hbW.cell (p := ad.add (i * 5)) hadl).trans a0
      have b1 := (hbW.cell (p := ⟨(ad.add (i * 5)).block, (ad.add (i * 5)).off + 1, none⟩) hadl).trans a1
      have b2 := (hbW.cell (p := ⟨(ad.add (i * 5)).block, (ad.add (i * 5)).off + 2, none⟩) hadl).trans a2
      have b3 := (hbW.cell (p := ⟨(ad.add (i * 5)).block, (ad.add (i * 5)).off + 3, none⟩) hadl).trans a3
      have b4 := (hbW.cell (p := ⟨(ad.add (i * 5)).block, (ad.add (i * 5)).off + 4, none⟩) hadl).trans a4
      obtain ⟨hwh0, hwh1⟩ := hwh
      obtain ⟨hse0, hse1⟩ := hse
      obtain ⟨hnn0, hnn1⟩ := hnn
      have hwi : (Lit.int .i64 x.sec).wf = true := WalkArith.wf_i64 (by omega)
      replace hT := hT.alloc (.cells #[.int .u8 x.what, .int .i16 x.sec, .int .u8 x.letter, .int .i8 x.n, .slice Ac x.ch.length cc] 73)
      have hI : ∀ {W : World} {p q : DS}, Two [(wr.heap.size, .cells #[.int .u8 x.what, .int .i16 x.sec, .int .u8 x.letter, .int .i8 x.n, .slice Ac x.ch.length cc] 73)] w W d r p q → W.cell? ⟨wr.heap.size, 2, none⟩ = some (.int .u8 x.letter) := fun h => blk_cell (h.blk List.mem_cons_self) 2
      have hI3 : ∀ {W : World} {p q : DS}, Two [(wr.heap.size, .cells #[.int .u8 x.what, .int .i16 x.sec, .int .u8 x.letter, .int .i8 x.n, .slice Ac x.ch.length cc] 73)] w W d r p q → W.cell? ⟨wr.heap.size, 3, none⟩ = some (.int .i8 x.n) := fun h => blk_cell (h.blk List.mem_cons_self) 3
      have hI4 : ∀ {W : World} {p q : DS}, Two [(wr.heap.size, .cells #[.int .u8 x.what, .int .i16 x.sec, .int .u8 x.letter, .int .i8 x.n, .slice Ac x.ch.length cc] 73)] w W d r p q → W.cell? ⟨wr.heap.size, 4, none⟩ = some (.slice Ac x.ch.length cc) := fun h => blk_cell (h.blk List.mem_cons_self) 4
      clear hA hL a0 a1 a2 a3 a4
      rcases (by omega : x.what % 6 = 0 ∨ x.what % 6 = 1 ∨ x.what % 6 = 2 ∨ x.what % 6 = 3 ∨ x.what % 6 = 4 ∨ x.what % 6 = 5) with hm | hm | hm | hm | hm | hm
      · -- read
          gi_wp2_with fail
          refine (callsIn_wide.2 (two_read_d hT hGs (by omega) hwi)).mono ?_
          rintro e y1 ⟨rfl, hT1⟩
          gi_wp2_with fail
          refine (callsIn_wide.2 (two_read_r hT1 hGs (by omega))).mono ?_
          rintro e y2 ⟨rfl, hTr⟩
          have hG := hGs.read x.sec
          obtain ⟨q, hq⟩ : ∃ q, s.read x.sec = q := ⟨_, rfl⟩
          rw [hq] at hTr hG ⊢
          clear hq hT hT1
          obtain ⟨str, er, s1⟩ := q
          dsimp only at hTr hG ⊢
          have hT := hTr
          gi_wp2_with fail
          obtain ⟨Ap, cp, vh, c1, c2, c5, _, _⟩ := two_cells hT
          refine wpIn_region_phases 32 [.pointer (some ⟨d, 0, none⟩), .bool s1.off, .pointer (some ⟨r, 0, none⟩), .pointer (some ⟨r, 0, none⟩), .pointer (some ⟨r, 2, none⟩), .bool s1.off, .bool false, .bool false, .pointer (some ⟨d, 0, none⟩), .int .i64 s1.ops, .pointer (some ⟨r, 0, none⟩), .pointer (some ⟨r, 0, none⟩), .pointer (some ⟨r, 5, none⟩), .int .i64 s1.ops, .bool false, .bool false, .bool false, .pointer (some ⟨d, 0, none⟩), .int .i64 s1.pend.length, .pointer (some ⟨r, 0, none⟩), .pointer (some ⟨r, 0, none⟩), .pointer (some ⟨r, 1, none⟩), .slice Ap s1.pend.length cp, .int .i64 s1.pend.length, .bool false, .bool false, .bool false, .pointer (some ⟨d, 0, none⟩), .int .i64 n, .int .i64 n, .bool false, .bool false]
            (fun W' => W' = y2.drew) (by kernel_rfl) (by kernel_rfl) rfl rfl ?st1 ?ta1
          case st1 =>
            rintro W' rfl
            have e1 : y2.drew.cell? ⟨r, 1, none⟩ = some (.slice Ap s1.pend.length cp) := c1
            have e2 : y2.drew.cell? ⟨r, 2, none⟩ = some (.bool s1.off) := c2
            have e5 : y2.drew.cell? ⟨r, 5, none⟩ = some (.int .i64 s1.ops) := c5
            have hT2 := Lib.hid hT.drew
            have hG2 := Lib.hid hG
            clear hT hG hTr
            simp only [List.take_succ_cons, List.take_zero, AllIn, fillT, List.setIfInBounds_toArray, List.set_cons_zero, List.set_cons_succ]
            refine ⟨?_, ?_, ?_, ?_, ?_, ?_, ?_, ?_, ?_, ?_, ?_, ?_, ?_, ?_, ?_, ?_, ?_, ?_, ?_, ?_, ?_, ?_, ?_, ?_, ?_, ?_, ?_, ?_, ?_, ?_, ?_, ?_, trivial⟩
            all_goals
              gi_wp2_with (first | (gi_at_call 34; refine (callsIn_wide.2 (two_off hT2.out)).mono ?_; rintro e w' ⟨rfl, rfl⟩) | (gi_at_call 43; refine (callsIn_wide.2 (two_ops hT2.out)).mono ?_; rintro e w' ⟨rfl, rfl⟩) | (gi_at_call 35; refine (callsIn_wide.2 (two_pending hT2.out)).mono ?_; rintro e w' ⟨rfl, rfl⟩) | (gi_at_call 44; refine (callsIn_wide.2 (two_sectors hT2.out hG2.out)).mono ?_; rintro e w' ⟨rfl, rfl⟩))
              exact ⟨rfl, rfl⟩
          case ta1 =>
            rintro W' rfl
            simp only [List.take_succ_cons, List.take_zero, List.drop_succ_cons, List.drop_nil, fillT, List.setIfInBounds_toArray, List.set_cons_zero, List.set_cons_succ]
            have hT2 := hT.drew
            clear hT c1 c2 c5
            gi_wp2
            go_roundw
            case rel => exact ⟨i + 1, _, by omega, by omega, by go_num, hT2.none, hG⟩
            case measure => simp [intOf]; omega
      · -- write
          gi_wp2_with fail
          refine wpIn_region_mixedC [4, 5, 10, 11, 12] [.pointer (some ⟨d, 0, none⟩), .int .i64 x.sec, .pointer (some ⟨wr.heap.size, 2, none⟩), .int .u8 x.letter, .pointer (some ⟨r, 0, none⟩), .int .i64 x.sec, .pointer (some ⟨wr.heap.size, 2, none⟩), .int .u8 x.letter] (fun W' => W'.cell? ⟨wr.heap.size, 2, none⟩ = some (.int .u8 x.letter)) (by kernel_rfl) (by kernel_rfl) rfl (by decide) ?fl4 ?ch4
          case fl4 =>
            intro W' f0
            simp only [floatsFrom, List.contains_cons, List.contains_nil, Nat.reduceBEq, Nat.reduceAdd, Bool.or_false, Bool.or_true, if_true, if_false, Bool.false_eq_true, AllIn, fillT, List.setIfInBounds_toArray, List.set_cons_zero, List.set_cons_succ]
            refine ⟨?_, ?_, ?_, ?_, ?_, ?_, ?_, ?_, trivial⟩
            all_goals
              gi_wp2
              exact ⟨rfl, rfl⟩
          case ch4 =>
            simp only [floatsFrom, List.contains_cons, List.contains_nil, Nat.reduceBEq, Nat.reduceAdd, Bool.or_false, Bool.or_true, if_true, if_false, Bool.false_eq_true, fillT, List.setIfInBounds_toArray, List.set_cons_zero, List.set_cons_succ]
            have hT0 := hT.drew
            refine ⟨hI hT0, fun o ho => ?_⟩
            simp only [List.getElem?_toArray, List.getElem?_cons_succ, List.getElem?_cons_zero, Option.some.injEq] at ho
            subst ho
            gi_wp2_with fail
            refine (callsIn_wide.2 (sector5_calls x.letter hlet _)).mono ?_
            rintro e y1 ⟨rfl, hb1⟩
            have hT1 := hT0.below hb1
            gi_wp2
            refine ⟨rfl, hI hT1, fun o ho => ?_⟩
            simp only [List.getElem?_toArray, List.getElem?_cons_succ, List.getElem?_cons_zero, Option.some.injEq] at ho
            subst ho
            gi_wp2_with fail
            refine (callsIn_wide.2 (two_write_d hT1 hGs (by omega) hwi (Nat.le_trans (sec5_le _) (by omega)))).mono ?_
            rintro e y2 ⟨rfl, hT2⟩
            gi_wp2
            refine ⟨rfl, hI hT2, fun o ho => ?_⟩
            simp only [List.getElem?_toArray, List.getElem?_cons_succ, List.getElem?_cons_zero, Option.some.injEq] at ho
            subst ho
            gi_wp2_with fail
            refine (callsIn_wide.2 (sector5_calls x.letter hlet _)).mono ?_
            rintro e y3 ⟨rfl, hb3⟩
            have hT3 := hT2.below hb3
            gi_wp2
            refine ⟨rfl, hI hT3, fun o ho => ?_⟩
            simp only [List.getElem?_toArray, List.getElem?_cons_succ, List.getElem?_cons_zero, Option.some.injEq] at ho
            subst ho
            gi_wp2_with fail
            refine (callsIn_wide.2 (two_write_r hT3 hGs (by omega))).mono ?_
            rintro e y4 ⟨rfl, hTr⟩
            have hG := hGs.write x.sec (sec5 x.letter)
            obtain ⟨q, hq⟩ : ∃ q, s.write x.sec (sec5 x.letter) = q := ⟨_, rfl⟩
            rw [hq] at hTr hG ⊢
            clear hq hT hT0 hT1 hT2 hT3
            obtain ⟨er, s1⟩ := q
            dsimp only at hTr hG ⊢
            have hT := hTr
            gi_wp2
            refine ⟨rfl, hI hT, fun o ho => ?_⟩
            simp only [List.getElem?_toArray, List.getElem?_cons_succ, List.getElem?_cons_zero, Option.some.injEq] at ho
            subst ho
            gi_wp2
            refine ⟨rfl, ?_⟩
            simp only [ChainIn]
            gi_wp2_with fail
            obtain ⟨Ap, cp, vh, c1, c2, c5, _, _⟩ := two_cells hT
            refine wpIn_region_phases 32 [.pointer (some ⟨d, 0, none⟩), .bool s1.off, .pointer (some ⟨r, 0, none⟩), .pointer (some ⟨r, 0, none⟩), .pointer (some ⟨r, 2, none⟩), .bool s1.off, .bool false, .bool false, .pointer (some ⟨d, 0, none⟩), .int .i64 s1.ops, .pointer (some ⟨r, 0, none⟩), .pointer (some ⟨r, 0, none⟩), .pointer (some ⟨r, 5, none⟩), .int .i64 s1.ops, .bool false, .bool false, .bool false, .pointer (some ⟨d, 0, none⟩), .int .i64 s1.pend.length, .pointer (some ⟨r, 0, none⟩), .pointer (some ⟨r, 0, none⟩), .pointer (some ⟨r, 1, none⟩), .slice Ap s1.pend.length cp, .int .i64 s1.pend.length, .bool false, .bool false, .bool false, .pointer (some ⟨d, 0, none⟩), .int .i64 n, .int .i64 n, .bool false, .bool false]
              (fun W' => W' = y4.drew) (by kernel_rfl) (by kernel_rfl) rfl rfl ?st3 ?ta3
            case st3 =>
              rintro W' rfl
              have e1 : y4.drew.cell? ⟨r, 1, none⟩ = some (.slice Ap s1.pend.length cp) := c1
              have e2 : y4.drew.cell? ⟨r, 2, none⟩ = some (.bool s1.off) := c2
              have e5 : y4.drew.cell? ⟨r, 5, none⟩ = some (.int .i64 s1.ops) := c5
              have hT2 := Lib.hid hT.drew
              have hG2 := Lib.hid hG
              clear hT hG hTr
              simp only [List.take_succ_cons, List.take_zero, AllIn, fillT, List.setIfInBounds_toArray, List.set_cons_zero, List.set_cons_succ]
              refine ⟨?_, ?_, ?_, ?_, ?_, ?_, ?_, ?_, ?_, ?_, ?_, ?_, ?_, ?_, ?_, ?_, ?_, ?_, ?_, ?_, ?_, ?_, ?_, ?_, ?_, ?_, ?_, ?_, ?_, ?_, ?_, ?_, trivial⟩
              all_goals
                gi_wp2_with (first | (gi_at_call 34; refine (callsIn_wide.2 (two_off hT2.out)).mono ?_; rintro e w' ⟨rfl, rfl⟩) | (gi_at_call 43; refine (callsIn_wide.2 (two_ops hT2.out)).mono ?_; rintro e w' ⟨rfl, rfl⟩) | (gi_at_call 35; refine (callsIn_wide.2 (two_pending hT2.out)).mono ?_; rintro e w' ⟨rfl, rfl⟩) | (gi_at_call 44; refine (callsIn_wide.2 (two_sectors hT2.out hG2.out)).mono ?_; rintro e w' ⟨rfl, rfl⟩))
                exact ⟨rfl, rfl⟩
            case ta3 =>
              rintro W' rfl
              simp only [List.take_succ_cons, List.take_zero, List.drop_succ_cons, List.drop_nil, fillT, List.setIfInBounds_toArray, List.set_cons_zero, List.set_cons_succ]
              have hT2 := hT.drew
              clear hT c1 c2 c5
              gi_wp2
              go_roundw
              case rel => exact ⟨i + 1, _, by omega, by omega, by go_num, hT2.none, hG⟩
              case measure => simp [intOf]; omega
      · -- write
          gi_wp2_with fail
          refine wpIn_region_mixedC [4, 5, 10, 11, 12] [.pointer (some ⟨d, 0, none⟩), .int .i64 x.sec, .pointer (some ⟨wr.heap.size, 2, none⟩), .int .u8 x.letter, .pointer (some ⟨r, 0, none⟩), .int .i64 x.sec, .pointer (some ⟨wr.heap.size, 2, none⟩), .int .u8 x.letter] (fun W' => W'.cell? ⟨wr.heap.size, 2, none⟩ = some (.int .u8 x.letter)) (by kernel_rfl) (by kernel_rfl) rfl (by decide) ?fl6 ?ch6
          case fl6 =>
            intro W' f0
            simp only [floatsFrom, List.contains_cons, List.contains_nil, Nat.reduceBEq, Nat.reduceAdd, Bool.or_false, Bool.or_true, if_true, if_false, Bool.false_eq_true, AllIn, fillT, List.setIfInBounds_toArray, List.set_cons_zero, List.set_cons_succ]
            refine ⟨?_, ?_, ?_, ?_, ?_, ?_, ?_, ?_, trivial⟩
            all_goals
              gi_wp2
              exact ⟨rfl, rfl⟩
          case ch6 =>
            simp only [floatsFrom, List.contains_cons, List.contains_nil, Nat.reduceBEq, Nat.reduceAdd, Bool.or_false, Bool.or_true, if_true, if_false, Bool.false_eq_true, fillT, List.setIfInBounds_toArray, List.set_cons_zero, List.set_cons_succ]
            have hT0 := hT.drew
            refine ⟨hI hT0, fun o ho => ?_⟩
            simp only [List.getElem?_toArray, List.getElem?_cons_succ, List.getElem?_cons_zero, Option.some.injEq] at ho
            subst ho
            gi_wp2_with fail
            refine (callsIn_wide.2 (sector5_calls x.letter hlet _)).mono ?_
            rintro e y1 ⟨rfl, hb1⟩
            have hT1 := hT0.below hb1
            gi_wp2
            refine ⟨rfl, hI hT1, fun o ho => ?_⟩
            simp only [List.getElem?_toArray, List.getElem?_cons_succ, List.getElem?_cons_zero, Option.some.injEq] at ho
            subst ho
            gi_wp2_with fail
            refine (callsIn_wide.2 (two_write_d hT1 hGs (by omega) hwi (Nat.le_trans (sec5_le _) (by omega)))).mono ?_
            rintro e y2 ⟨rfl, hT2⟩
            gi_wp2
            refine ⟨rfl, hI hT2, fun o ho => ?_⟩
            simp only [List.getElem?_toArray, List.getElem?_cons_succ, List.getElem?_cons_zero, Option.some.injEq] at ho
            subst ho
            gi_wp2_with fail
            refine (callsIn_wide.2 (sector5_calls x.letter hlet _)).mono ?_
            rintro e y3 ⟨rfl, hb3⟩
            have hT3 := hT2.below hb3
            gi_wp2
            refine ⟨rfl, hI hT3, fun o ho => ?_⟩
            simp only [List.getElem?_toArray, List.getElem?_cons_succ, List.getElem?_cons_zero, Option.some.injEq] at ho
            subst ho
            gi_wp2_with fail
            refine (callsIn_wide.2 (two_write_r hT3 hGs (by omega))).mono ?_
            rintro e y4 ⟨rfl, hTr⟩
            have hG := hGs.write x.sec (sec5 x.letter)
            obtain ⟨q, hq⟩ : ∃ q, s.write x.sec (sec5 x.letter) = q := ⟨_, rfl⟩
            rw [hq] at hTr hG ⊢
            clear hq hT hT0 hT1 hT2 hT3
            obtain ⟨er, s1⟩ := q
            dsimp only at hTr hG ⊢
            have hT := hTr
            gi_wp2
            refine ⟨rfl, hI hT, fun o ho => ?_⟩
            simp only [List.getElem?_toArray, List.getElem?_cons_succ, List.getElem?_cons_zero, Option.some.injEq] at ho
            subst ho
            gi_wp2
            refine ⟨rfl, ?_⟩
            simp only [ChainIn]
            gi_wp2_with fail
            obtain ⟨Ap, cp, vh, c1, c2, c5, _, _⟩ := two_cells hT
            refine wpIn_region_phases 32 [.pointer (some ⟨d, 0, none⟩), .bool s1.off, .pointer (some ⟨r, 0, none⟩), .pointer (some ⟨r, 0, none⟩), .pointer (some ⟨r, 2, none⟩), .bool s1.off, .bool false, .bool false, .pointer (some ⟨d, 0, none⟩), .int .i64 s1.ops, .pointer (some ⟨r, 0, none⟩), .pointer (some ⟨r, 0, none⟩), .pointer (some ⟨r, 5, none⟩), .int .i64 s1.ops, .bool false, .bool false, .bool false, .pointer (some ⟨d, 0, none⟩), .int .i64 s1.pend.length, .pointer (some ⟨r, 0, none⟩), .pointer (some ⟨r, 0, none⟩), .pointer (some ⟨r, 1, none⟩), .slice Ap s1.pend.length cp, .int .i64 s1.pend.length, .bool false, .bool false, .bool false, .pointer (some ⟨d, 0, none⟩), .int .i64 n, .int .i64 n, .bool false, .bool false]
              (fun W' => W' = y4.drew) (by kernel_rfl) (by kernel_rfl) rfl rfl ?st5 ?ta5
            case st5 =>
              rintro W' rfl
              have e1 : y4.drew.cell? ⟨r, 1, none⟩ = some (.slice Ap s1.pend.length cp) := c1
              have e2 : y4.drew.cell? ⟨r, 2, none⟩ = some (.bool s1.off) := c2
              have e5 : y4.drew.cell? ⟨r, 5, none⟩ = some (.int .i64 s1.ops) := c5
              have hT2 := Lib.hid hT.drew
              have hG2 := Lib.hid hG
              clear hT hG hTr
              simp only [List.take_succ_cons, List.take_zero, AllIn, fillT, List.setIfInBounds_toArray, List.set_cons_zero, List.set_cons_succ]
              refine ⟨?_, ?_, ?_, ?_, ?_, ?_, ?_, ?_, ?_, ?_, ?_, ?_, ?_, ?_, ?_, ?_, ?_, ?_, ?_, ?_, ?_, ?_, ?_, ?_, ?_, ?_, ?_, ?_, ?_, ?_, ?_, ?_, trivial⟩
              all_goals
                gi_wp2_with (first | (gi_at_call 34; refine (callsIn_wide.2 (two_off hT2.out)).mono ?_; rintro e w' ⟨rfl, rfl⟩) | (gi_at_call 43; refine (callsIn_wide.2 (two_ops hT2.out)).mono ?_; rintro e w' ⟨rfl, rfl⟩) | (gi_at_call 35; refine (callsIn_wide.2 (two_pending hT2.out)).mono ?_; rintro e w' ⟨rfl, rfl⟩) | (gi_at_call 44; refine (callsIn_wide.2 (two_sectors hT2.out hG2.out)).mono ?_; rintro e w' ⟨rfl, rfl⟩))
                exact ⟨rfl, rfl⟩
            case ta5 =>
              rintro W' rfl
              simp only [List.take_succ_cons, List.take_zero, List.drop_succ_cons, List.drop_nil, fillT, List.setIfInBounds_toArray, List.set_cons_zero, List.set_cons_succ]
              have hT2 := hT.drew
              clear hT c1 c2 c5
              gi_wp2
              go_roundw
              case rel => exact ⟨i + 1, _, by omega, by omega, by go_num, hT2.none, hG⟩
              case measure => simp [intOf]; omega
      · -- barrier
          gi_wp2_with fail
          refine (callsIn_wide.2 (two_barrier_d hT hGs (by omega) (by omega))).mono ?_
          rintro e y1 ⟨rfl, hT1⟩
          gi_wp2_with fail
          refine (callsIn_wide.2 (two_barrier_r hT1 hGs (by omega) (by omega))).mono ?_
          rintro e y2 ⟨rfl, hTr⟩
          have hG := hGs.barrier
          obtain ⟨q, hq⟩ : ∃ q, s.barrier = q := ⟨_, rfl⟩
          rw [hq] at hTr hG ⊢
          clear hq hT hT1
          obtain ⟨er, s1⟩ := q
          dsimp only at hTr hG ⊢
          have hT := hTr
          gi_wp2_with fail
          obtain ⟨Ap, cp, vh, c1, c2, c5, _, _⟩ := two_cells hT
          refine wpIn_region_phases 32 [.pointer (some ⟨d, 0, none⟩), .bool s1.off, .pointer (some ⟨r, 0, none⟩), .pointer (some ⟨r, 0, none⟩), .pointer (some ⟨r, 2, none⟩), .bool s1.off, .bool false, .bool false, .pointer (some ⟨d, 0, none⟩), .int .i64 s1.ops, .pointer (some ⟨r, 0, none⟩), .pointer (some ⟨r, 0, none⟩), .pointer (some ⟨r, 5, none⟩), .int .i64 s1.ops, .bool false, .bool false, .bool false, .pointer (some ⟨d, 0, none⟩), .int .i64 s1.pend.length, .pointer (some ⟨r, 0, none⟩), .pointer (some ⟨r, 0, none⟩), .pointer (some ⟨r, 1, none⟩), .slice Ap s1.pend.length cp, .int .i64 s1.pend.length, .bool false, .bool false, .bool false, .pointer (some ⟨d, 0, none⟩), .int .i64 n, .int .i64 n, .bool false, .bool false]
            (fun W' => W' = y2.drew) (by kernel_rfl) (by kernel_rfl) rfl rfl ?st7 ?ta7
          case st7 =>
            rintro W' rfl
            have e1 : y2.drew.cell? ⟨r, 1, none⟩ = some (.slice Ap s1.pend.length cp) := c1
            have e2 : y2.drew.cell? ⟨r, 2, none⟩ = some (.bool s1.off) := c2
            have e5 : y2.drew.cell? ⟨r, 5, none⟩ = some (.int .i64 s1.ops) := c5
            have hT2 := Lib.hid hT.drew
            have hG2 := Lib.hid hG
            clear hT hG hTr
            simp only [List.take_succ_cons, List.take_zero, AllIn, fillT, List.setIfInBounds_toArray, List.set_cons_zero, List.set_cons_succ]
            refine ⟨?_, ?_, ?_, ?_, ?_, ?_, ?_, ?_, ?_, ?_, ?_, ?_, ?_, ?_, ?_, ?_, ?_, ?_, ?_, ?_, ?_, ?_, ?_, ?_, ?_, ?_, ?_, ?_, ?_, ?_, ?_, ?_, trivial⟩
            all_goals
              gi_wp2_with (first | (gi_at_call 34; refine (callsIn_wide.2 (two_off hT2.out)).mono ?_; rintro e w' ⟨rfl, rfl⟩) | (gi_at_call 43; refine (callsIn_wide.2 (two_ops hT2.out)).mono ?_; rintro e w' ⟨rfl, rfl⟩) | (gi_at_call 35; refine (callsIn_wide.2 (two_pending hT2.out)).mono ?_; rintro e w' ⟨rfl, rfl⟩) | (gi_at_call 44; refine (callsIn_wide.2 (two_sectors hT2.out hG2.out)).mono ?_; rintro e w' ⟨rfl, rfl⟩))
              exact ⟨rfl, rfl⟩
          case ta7 =>
            rintro W' rfl
            simp only [List.take_succ_cons, List.take_zero, List.drop_succ_cons, List.drop_nil, fillT, List.setIfInBounds_toArray, List.set_cons_zero, List.set_cons_succ]
            have hT2 := hT.drew
            clear hT c1 c2 c5
            gi_wp2
            go_roundw
            case rel => exact ⟨i + 1, _, by omega, by omega, by go_num, hT2.none, hG⟩
            case measure => simp [intOf]; omega
      · -- arm
          have f3 := hI3 hT
          gi_wp2_with fail
          refine (callsIn_wide.2 (two_arm_d hT x.n)).mono ?_
          rintro e y1 ⟨rfl, hT1⟩
          have f3 := hI3 hT1
          gi_wp2_with fail
          refine (callsIn_wide.2 (two_arm_r hT1 x.n)).mono ?_
          rintro e y2 ⟨rfl, hTr⟩
          have hG := hGs.arm (k := x.n) (by omega)
          obtain ⟨s1, hs1⟩ : ∃ s1 : DS, { s with fuse := max (-1) x.n } = s1 := ⟨_, rfl⟩
          rw [hs1] at hTr hG
          clear hs1 hT hT1 f3
          have hT := hTr
          gi_wp2_with fail
          obtain ⟨Ap, cp, vh, c1, c2, c5, _, _⟩ := two_cells hT
          refine wpIn_region_phases 32 [.pointer (some ⟨d, 0, none⟩), .bool s1.off, .pointer (some ⟨r, 0, none⟩), .pointer (some ⟨r, 0, none⟩), .pointer (some ⟨r, 2, none⟩), .bool s1.off, .bool false, .bool false, .pointer (some ⟨d, 0, none⟩), .int .i64 s1.ops, .pointer (some ⟨r, 0, none⟩), .pointer (some ⟨r, 0, none⟩), .pointer (some ⟨r, 5, none⟩), .int .i64 s1.ops, .bool false, .bool false, .bool false, .pointer (some ⟨d, 0, none⟩), .int .i64 s1.pend.length, .pointer (some ⟨r, 0, none⟩), .pointer (some ⟨r, 0, none⟩), .pointer (some ⟨r, 1, none⟩), .slice Ap s1.pend.length cp, .int .i64 s1.pend.length, .bool false, .bool false, .bool false, .pointer (some ⟨d, 0, none⟩), .int .i64 n, .int .i64 n, .bool false, .bool false]
            (fun W' => W' = y2.drew) (by kernel_rfl) (by kernel_rfl) rfl rfl ?st9 ?ta9
          case st9 =>
            rintro W' rfl
            have e1 : y2.drew.cell? ⟨r, 1, none⟩ = some (.slice Ap s1.pend.length cp) := c1
            have e2 : y2.drew.cell? ⟨r, 2, none⟩ = some (.bool s1.off) := c2
            have e5 : y2.drew.cell? ⟨r, 5, none⟩ = some (.int .i64 s1.ops) := c5
            have hT2 := Lib.hid hT.drew
            have hG2 := Lib.hid hG
            clear hT hG hTr
            simp only [List.take_succ_cons, List.take_zero, AllIn, fillT, List.setIfInBounds_toArray, List.set_cons_zero, List.set_cons_succ]
            refine ⟨?_, ?_, ?_, ?_, ?_, ?_, ?_, ?_, ?_, ?_, ?_, ?_, ?_, ?_, ?_, ?_, ?_, ?_, ?_, ?_, ?_, ?_, ?_, ?_, ?_, ?_, ?_, ?_, ?_, ?_, ?_, ?_, trivial⟩
            all_goals
              gi_wp2_with (first | (gi_at_call 34; refine (callsIn_wide.2 (two_off hT2.out)).mono ?_; rintro e w' ⟨rfl, rfl⟩) | (gi_at_call 43; refine (callsIn_wide.2 (two_ops hT2.out)).mono ?_; rintro e w' ⟨rfl, rfl⟩) | (gi_at_call 35; refine (callsIn_wide.2 (two_pending hT2.out)).mono ?_; rintro e w' ⟨rfl, rfl⟩) | (gi_at_call 44; refine (callsIn_wide.2 (two_sectors hT2.out hG2.out)).mono ?_; rintro e w' ⟨rfl, rfl⟩))
              exact ⟨rfl, rfl⟩
          case ta9 =>
            rintro W' rfl
            simp only [List.take_succ_cons, List.take_zero, List.drop_succ_cons, List.drop_nil, fillT, List.setIfInBounds_toArray, List.set_cons_zero, List.set_cons_succ]
            have hT2 := hT.drew
            clear hT c1 c2 c5
            gi_wp2
            go_roundw
            case rel => exact ⟨i + 1, _, by omega, by omega, by go_num, hT2.none, hG⟩
            case measure => simp [intOf]; omega
      · -- boot
        rcases (by omega : x.ch.length ≤ 100 ∨ 100 < x.ch.length) with hch | hch
        ·
          have hle : (x.ch.length : Int) ≤ 100 := by omega
          have hCt : Kd.C (Kd.int .u8) w Ac x.ch.length x.ch := hCc
          have f4 := hI4 hT
          gi_wp2_with fail
          have qb := two_boot_d (c0 := cc) hT hGs (by omega) (Kd.C_below hCt hT.base) hlc hby
          refine (callsIn_wide.2 qb).mono ?_
          clear qb
          rintro e y1 ⟨rfl, hT1⟩
          gi_wp2_with fail
          have qr := two_boot_r (c0 := cc) hT1 hGs (by omega) (by omega) (Kd.C_below hCt hT1.base) hby
          refine (callsIn_wide.2 qr).mono ?_
          clear qr
          rintro e y2 ⟨rfl, hTr⟩
          have hG := hGs.boot x.ch
          generalize s.boot x.ch = s1 at *
          clear hT hT1 f4
          have hT := hTr
          gi_wp2_with fail
          obtain ⟨Ap, cp, vh, c1, c2, c5, _, _⟩ := two_cells hT
          refine wpIn_region_phases 32 [.pointer (some ⟨d, 0, none⟩), .bool s1.off, .pointer (some ⟨r, 0, none⟩), .pointer (some ⟨r, 0, none⟩), .pointer (some ⟨r, 2, none⟩), .bool s1.off, .bool false, .bool false, .pointer (some ⟨d, 0, none⟩), .int .i64 s1.ops, .pointer (some ⟨r, 0, none⟩), .pointer (some ⟨r, 0, none⟩), .pointer (some ⟨r, 5, none⟩), .int .i64 s1.ops, .bool false, .bool false, .bool false, .pointer (some ⟨d, 0, none⟩), .int .i64 s1.pend.length, .pointer (some ⟨r, 0, none⟩), .pointer (some ⟨r, 0, none⟩), .pointer (some ⟨r, 1, none⟩), .slice Ap s1.pend.length cp, .int .i64 s1.pend.length, .bool false, .bool false, .bool false, .pointer (some ⟨d, 0, none⟩), .int .i64 n, .int .i64 n, .bool false, .bool false]
            (fun W' => W' = y2.drew) (by kernel_rfl) (by kernel_rfl) rfl rfl ?st11 ?ta11
          case st11 =>
            rintro W' rfl
            have e1 : y2.drew.cell? ⟨r, 1, none⟩ = some (.slice Ap s1.pend.length cp) := c1
            have e2 : y2.drew.cell? ⟨r, 2, none⟩ = some (.bool s1.off) := c2
            have e5 : y2.drew.cell? ⟨r, 5, none⟩ = some (.int .i64 s1.ops) := c5
            have hT2 := Lib.hid hT.drew
            have hG2 := Lib.hid hG
            clear hT hG hTr
            simp only [List.take_succ_cons, List.take_zero, AllIn, fillT, List.setIfInBounds_toArray, List.set_cons_zero, List.set_cons_succ]
            refine ⟨?_, ?_, ?_, ?_, ?_, ?_, ?_, ?_, ?_, ?_, ?_, ?_, ?_, ?_, ?_, ?_, ?_, ?_, ?_, ?_, ?_, ?_, ?_, ?_, ?_, ?_, ?_, ?_, ?_, ?_, ?_, ?_, trivial⟩
            all_goals
              gi_wp2_with (first | (gi_at_call 34; refine (callsIn_wide.2 (two_off hT2.out)).mono ?_; rintro e w' ⟨rfl, rfl⟩) | (gi_at_call 43; refine (callsIn_wide.2 (two_ops hT2.out)).mono ?_; rintro e w' ⟨rfl, rfl⟩) | (gi_at_call 35; refine (callsIn_wide.2 (two_pending hT2.out)).mono ?_; rintro e w' ⟨rfl, rfl⟩) | (gi_at_call 44; refine (callsIn_wide.2 (two_sectors hT2.out hG2.out)).mono ?_; rintro e w' ⟨rfl, rfl⟩))
              exact ⟨rfl, rfl⟩
          case ta11 =>
            rintro W' rfl
            simp only [List.take_succ_cons, List.take_zero, List.drop_succ_cons, List.drop_nil, fillT, List.setIfInBounds_toArray, List.set_cons_zero, List.set_cons_succ]
            have hT2 := hT.drew
            clear hT c1 c2 c5
            gi_wp2
            go_roundw
            case rel => exact ⟨i + 1, _, by omega, by omega, by go_num, hT2.none, hG⟩
            case measure => simp [intOf]; omega
        ·
          have hle : ¬ (x.ch.length : Int) ≤ 100 := by omega
          have hle2 : (100 : Int) < x.ch.length := by omega
          have hCt : Kd.C (Kd.int .u8) w Ac (x.ch.take 100).length (x.ch.take 100) := Kd.C_take hCc (by omega)
          have hl100 : (x.ch.take 100).length = 100 := by rw [List.length_take]; omega
          have f4 := hI4 hT
          gi_wp2_with fail
          have qb := two_boot_d (c0 := cc) hT hGs (by omega) (Kd.C_below hCt hT.base) (by rw [hl100]; omega) (fun y hy => hby y (List.mem_of_mem_take hy))
          rw [hl100] at qb
          refine (callsIn_wide.2 qb).mono ?_
          clear qb
          rintro e y1 ⟨rfl, hT1⟩
          gi_wp2_with fail
          have qr := two_boot_r (c0 := cc) hT1 hGs (by omega) (by omega) (Kd.C_below hCt hT1.base) (fun y hy => hby y (List.mem_of_mem_take hy))
          rw [hl100] at qr
          refine (callsIn_wide.2 qr).mono ?_
          clear qr
          rintro e y2 ⟨rfl, hTr⟩
          have hG := hGs.boot (x.ch.take 100)
          generalize s.boot (x.ch.take 100) = s1 at *
          clear hT hT1 f4
          have hT := hTr
          gi_wp2_with fail
          obtain ⟨Ap, cp, vh, c1, c2, c5, _, _⟩ := two_cells hT
          refine wpIn_region_phases 32 [.pointer (some ⟨d, 0, none⟩), .bool s1.off, .pointer (some ⟨r, 0, none⟩), .pointer (some ⟨r, 0, none⟩), .pointer (some ⟨r, 2, none⟩), .bool s1.off, .bool false, .bool false, .pointer (some ⟨d, 0, none⟩), .int .i64 s1.ops, .pointer (some ⟨r, 0, none⟩), .pointer (some ⟨r, 0, none⟩), .pointer (some ⟨r, 5, none⟩), .int .i64 s1.ops, .bool false, .bool false, .bool false, .pointer (some ⟨d, 0, none⟩), .int .i64 s1.pend.length, .pointer (some ⟨r, 0, none⟩), .pointer (some ⟨r, 0, none⟩), .pointer (some ⟨r, 1, none⟩), .slice Ap s1.pend.length cp, .int .i64 s1.pend.length, .bool false, .bool false, .bool false, .pointer (some ⟨d, 0, none⟩), .int .i64 n, .int .i64 n, .bool false, .bool false]
            (fun W' => W' = y2.drew) (by kernel_rfl) (by kernel_rfl) rfl rfl ?st13 ?ta13
          case st13 =>
            rintro W' rfl
            have e1 : y2.drew.cell? ⟨r, 1, none⟩ = some (.slice Ap s1.pend.length cp) := c1
            have e2 : y2.drew.cell? ⟨r, 2, none⟩ = some (.bool s1.off) := c2
            have e5 : y2.drew.cell? ⟨r, 5, none⟩ = some (.int .i64 s1.ops) := c5
            have hT2 := Lib.hid hT.drew
            have hG2 := Lib.hid hG
            clear hT hG hTr
            simp only [List.take_succ_cons, List.take_zero, AllIn, fillT, List.setIfInBounds_toArray, List.set_cons_zero, List.set_cons_succ]
            refine ⟨?_, ?_, ?_, ?_, ?_, ?_, ?_, ?_, ?_, ?_, ?_, ?_, ?_, ?_, ?_, ?_, ?_, ?_, ?_, ?_, ?_, ?_, ?_, ?_, ?_, ?_, ?_, ?_, ?_, ?_, ?_, ?_, trivial⟩
            all_goals
              gi_wp2_with (first | (gi_at_call 34; refine (callsIn_wide.2 (two_off hT2.out)).mono ?_; rintro e w' ⟨rfl, rfl⟩) | (gi_at_call 43; refine (callsIn_wide.2 (two_ops hT2.out)).mono ?_; rintro e w' ⟨rfl, rfl⟩) | (gi_at_call 35; refine (callsIn_wide.2 (two_pending hT2.out)).mono ?_; rintro e w' ⟨rfl, rfl⟩) | (gi_at_call 44; refine (callsIn_wide.2 (two_sectors hT2.out hG2.out)).mono ?_; rintro e w' ⟨rfl, rfl⟩))
              exact ⟨rfl, rfl⟩
          case ta13 =>
            rintro W' rfl
            simp only [List.take_succ_cons, List.take_zero, List.drop_succ_cons, List.drop_nil, fillT, List.setIfInBounds_toArray, List.set_cons_zero, List.set_cons_succ]
            have hT2 := hT.drew
            clear hT c1 c2 c5
            gi_wp2
            go_roundw
            case rel => exact ⟨i + 1, _, by omega, by omega, by go_num, hT2.none, hG⟩
            case measure => simp [intOf]; omega
    · have hil' : ((60 : Nat) : Int) < L.length := by omega
      clear hA hL
      have hrest : True := trivial
      gi_wp2_with fail
      refine (callsIn_wide.2 (two_boot_d (c0 := 0) hT hGs (by omega) (Kd.C_nil _ _) (Nat.le_refl _) (fun y hy => by cases hy))).mono ?_
      rintro e y1 ⟨rfl, hT1⟩
      gi_wp2_with fail
      refine (callsIn_wide.2 (two_boot_r (c0 := 0) hT1 hGs (by omega) (by omega) (Kd.C_nil _ _) (fun y hy => by cases hy))).mono ?_
      rintro e y2 ⟨rfl, hTr⟩
      have hG := hGs.boot []
      have hoff : (s.boot []).off = false := rfl
      have hfu : (s.boot []).fuse = -1 := rfl
      have hpe : (s.boot []).pend = [] := rfl
      generalize s.boot [] = s1 at *
      obtain ⟨held, pend, off, fuse, ops⟩ := s1
      dsimp only at hoff hfu hpe
      subst hoff hfu hpe
      clear hT hT1 hGs
      gi_wp2_with fail
      gi_loopw [15] (fun u wv => ∃ (k m : Nat) (o : Int), k ≤ n ∧ m ≤ 62 + k ∧ u = .int .i64 (k : Int) ∧ Two [] w wv d r ⟨held, [], false, -1, o⟩ ⟨held, [], false, -1, ops⟩ ∧ Good ⟨held, [], false, -1, o⟩ n m)
        (fun u _ => n - (intOf u).toNat)
      case atStart => exact ⟨0, 61, ops, Nat.zero_le _, by omega, rfl, hTr, hG.more (by omega)⟩
      case round =>
        clear hTr hG
        obtain ⟨k, m, o, hk, hm, rfl, hT, hG⟩ := hrel
        rcases Nat.lt_or_ge k n with hkl | hkl
        · have hkl' : (k : Int) < n := by omega
          have hk0 : 0 ≤ (k : Int) := by omega
          have hlen : held.length = n := hG.len
          have hq : (DS.mk held [] false (-1) o).read (k : Int) = (rdOf ByteArray.empty held (k : Int), 0, ⟨held, [], false, -1, o + 1⟩) := read_go (thereB_iff.2 ⟨hk0, by omega⟩) (by decide)
          have hG1 := hG.read (k : Int)
          have q := two_read_d hT hG (by omega) (i := (k : Int)) (wf_nat (by omega))
          rw [hq] at q hG1
          dsimp only at hG1
          clear hq
          gi_wp2_with fail
          refine (callsIn_wide.2 q).mono ?_
          clear q
          rintro e y1 ⟨rfl, hT1⟩
          obtain ⟨_, _, vh, _, _, _, c0, Ah, ch, rfl, hCh⟩ := two_cells hT1
          dsimp only at c0 hCh hT1 ⊢
          rw [hlen] at c0 hCh
          obtain ⟨ad, hA, hcell⟩ := Kd.at_string hCh (k : Int) hk0 (by omega)
          subst hA
          rw [Int.toNat_natCast] at hcell
          generalize rdOf ByteArray.empty held (k : Int) = x0 at *
          clear hlen hCh hT hG
          gi_wp2
          go_roundw
          case rel => exact ⟨k + 1, m + 1, o + 1, by omega, by omega, by go_num, hT1, hG1⟩
          case measure => simp [intOf]; omega
        · obtain rfl : k = n := by omega
          have hb := hT.base
          clear hT hG
          gi_wp2_with fail
          refine (callsIn_wide.2 (works5_calls _)).mono ?_
          rintro e y9 ⟨rfl, hb9⟩
          gi_wp2
          exact ⟨rfl, _, results_tmp rfl _ _ _, rfl, below_then hb hb.size hb9⟩
    · subst hil
      clear hA hL
      have hrest : True := trivial
      gi_wp2_with fail
      refine (callsIn_wide.2 (two_boot_d (c0 := 0) hT hGs (by omega) (Kd.C_nil _ _) (Nat.le_refl _) (fun y hy => by cases hy))).mono ?_
      rintro e y1 ⟨rfl, hT1⟩
      gi_wp2_with fail
      refine (callsIn_wide.2 (two_boot_r (c0 := 0) hT1 hGs (by omega) (by omega) (Kd.C_nil _ _) (fun y hy => by cases hy))).mono ?_
      rintro e y2 ⟨rfl, hTr⟩
      have hG := hGs.boot []
      have hoff : (s.boot []).off = false := rfl
      have hfu : (s.boot []).fuse = -1 := rfl
      have hpe : (s.boot []).pend = [] := rfl
      generalize s.boot [] = s1 at *
      obtain ⟨held, pend, off, fuse, ops⟩ := s1
      dsimp only at hoff hfu hpe
      subst hoff hfu hpe
      clear hT hT1 hGs
      gi_wp2_with fail
      gi_loopw [15] (fun u wv => ∃ (k m : Nat) (o : Int), k ≤ n ∧ m ≤ 62 + k ∧ u = .int .i64 (k : Int) ∧ Two [] w wv d r ⟨held, [], false, -1, o⟩ ⟨held, [], false, -1, ops⟩ ∧ Good ⟨held, [], false, -1, o⟩ n m)
        (fun u _ => n - (intOf u).toNat)
      case atStart => exact ⟨0, 61, ops, Nat.zero_le _, by omega, rfl, hTr, hG.more (by omega)⟩
      case round =>
        clear hTr hG
        obtain ⟨k, m, o, hk, hm, rfl, hT, hG⟩ := hrel
        rcases Nat.lt_or_ge k n with hkl | hkl
        · have hkl' : (k : Int) < n := by omega
          have hk0 : 0 ≤ (k : Int) := by omega
          have hlen : held.length = n := hG.len
          have hq : (DS.mk held [] false (-1) o).read (k : Int) = (rdOf ByteArray.empty held (k : Int), 0, ⟨held, [], false, -1, o + 1⟩) := read_go (thereB_iff.2 ⟨hk0, by omega⟩) (by decide)
          have hG1 := hG.read (k : Int)
          have q := two_read_d hT hG (by omega) (i := (k : Int)) (wf_nat (by omega))
          rw [hq] at q hG1
          dsimp only at hG1
          clear hq
          gi_wp2_with fail
          refine (callsIn_wide.2 q).mono ?_
          clear q
          rintro e y1 ⟨rfl, hT1⟩
          obtain ⟨_, _, vh, _, _, _, c0, Ah, ch, rfl, hCh⟩ := two_cells hT1
          dsimp only at c0 hCh hT1 ⊢
          rw [hlen] at c0 hCh
          obtain ⟨ad, hA, hcell⟩ := Kd.at_string hCh (k : Int) hk0 (by omega)
          subst hA
          rw [Int.toNat_natCast] at hcell
          generalize rdOf ByteArray.empty held (k : Int) = x0 at *
          clear hlen hCh hT hG
          gi_wp2
          go_roundw
          case rel => exact ⟨k + 1, m + 1, o + 1, by omega, by omega, by go_num, hT1, hG1⟩
          case measure => simp [intOf]; omega
        · obtain rfl : k = n := by omega
          have hb := hT.base
          clear hT hG
          gi_wp2_with fail
          refine (callsIn_wide.2 (works5_calls _)).mono ?_
          rintro e y9 ⟨rfl, hb9⟩
          gi_wp2
          exact ⟨rfl, _, results_tmp rfl _ _ _, rfl, below_then hb hb.size hb9⟩

end Go.Proofs.Ytknibnbepmdapaa
