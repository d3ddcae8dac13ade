/-
The document's disk: Read and Write.
-/
import Derived.Test.YtknibnbepmdapaaEa
namespace Go.Proofs.Ytknibnbepmdapaa
open Go.RowKit Go.Shelf Go.Proofs.YtknibnbepmdapaaW.PrintWords Go.Proofs.Ytknibnbepmdapaa.PFate Go.ChangeMaps Go.Maps
attribute [local go_sem] Oper.semAt_some

theorem RefPost.same {w : World} {d : Nat} {F : Nat → Prop} {s : DS} (h : RefAt w d F s) : RefPost w d F s w := ⟨F, h, fun _ hk => .inl hk, Keeps.refl _ _⟩

theorem rd_taken (pend : List S43) {k : Nat} (h : k < pend.length) : pend.take (k + 1) = pend.take k ++ [rd_T43 pend (k : Int)] := by
  rw [List.take_add_one, List.getElem?_eq_getElem h]
  unfold rd_T43
  rw [Int.toNat_natCast, List.getD_eq_getElem?_getD, List.getElem?_eq_getElem h]
  rfl

set_option maxRecDepth 100000 in
set_option maxHeartbeats 1000000 in
theorem refRead_disk_in (d : Nat) (F : Nat → Prop) (s : DS) (i : Int) (w : World) (hR : RefAt w d F s) (hf : -1 ≤ s.fuse ∧ s.fuse ≤ 1000000) (ho : 0 ≤ s.ops ∧ s.ops ≤ 1000000) (hp : s.pend.length ≤ 1000000) :
    CallsIn Fence.wide 9 Try.prog 38 #[.pointer (some ⟨d, 0, none⟩), .int .i64 i] w fun e w' => e = .returned (.tuple #[.string (s.read i).1, .int .i64 (s.read i).2.1]) ∧ RefPost w d F (s.read i).2.2 w' := by
  have hF : ∀ f, Fence.wide.fn f := fun _ => trivial
  refine callsIn_of_wp Try.func38 rfl (hF _) ?_ rfl
  simp only [Try.ntmps38, List.size_toArray, List.length_cons, List.length_nil, Nat.reduceAdd, Nat.reduceSub, Array.replicate_succ, Array.replicate_zero, List.push_toArray, List.append_toArray, List.nil_append, List.cons_append]
  have hR0 := hR
  obtain ⟨vh, vp, armed, fz, hd, hr⟩ := hR
  obtain ⟨held, pend, off, fuse, ops⟩ := s
  dsimp only at hd hf ho hp
  obtain ⟨Ah, ch, rfl, hlh, hCh⟩ := Kd.R_reads hr.rh
  dsimp only at hlh hCh
  have g2 : w.cell? ⟨d, 2, none⟩ = some (.bool off) := hd.cell 2
  have g0 : w.cell? ⟨d, 0, none⟩ = some (.slice Ah held.length ch) := hd.cell 0
  cases off with
  | true =>
    have hfin : Hid ((DS.mk held pend true fuse ops).read i = (⟨#[]⟩, 10, ⟨held, pend, true, fuse, ops⟩)) := Lib.hid (by unfold DS.read DS.ask; simp)
    gi_wp2
    refine ⟨rfl, _, results_tmp2 rfl _ _ _, ?_⟩
    rw [hfin.out]
    exact ⟨rfl, RefPost.same hR0⟩
  | false =>
    cases hB : thereB i held.length with
    | false =>
      have hfin : Hid ((DS.mk held pend false fuse ops).read i = (⟨#[]⟩, 2, ⟨held, pend, false, fuse, ops⟩)) := Lib.hid (by unfold DS.read DS.ask; simp [hB])
      have hcase : i < 0 ∨ (held.length : Int) ≤ i := by
        rcases (by omega : i < 0 ∨ 0 ≤ i) with h | h
        · exact .inl h
        · refine .inr ?_
          rcases (by omega : i < held.length ∨ (held.length : Int) ≤ i) with h2 | h2
          · rw [thereB_iff.2 ⟨h, h2⟩] at hB; cases hB
          · exact h2
      replace hB := Lib.hid hB
      rcases (by omega : i < 0 ∨ (0 ≤ i ∧ (held.length : Int) ≤ i)) with h | ⟨h, h2⟩
      · gi_wp2
        refine ⟨rfl, _, results_tmp2 rfl _ _ _, ?_⟩
        rw [hfin.out]
        exact ⟨rfl, RefPost.same hR0⟩
      · clear hcase
        have hn : ¬ i < 0 := by omega
        gi_wp2
        refine ⟨rfl, _, results_tmp2 rfl _ _ _, ?_⟩
        rw [hfin.out]
        exact ⟨rfl, RefPost.same hR0⟩
    | true =>
      obtain ⟨hi0, hi1⟩ := thereB_iff.1 hB
      obtain ⟨j, rfl⟩ := Int.eq_ofNat_of_zero_le hi0
      have hn : ¬ (j : Int) < 0 := by omega
      have hn2 : ¬ (held.length : Int) ≤ (j : Int) := by omega
      have hfin0 : fuse = 0 → (DS.mk held pend false fuse ops).read (j : Int) = (⟨#[]⟩, 10, ⟨held, pend, true, -1, ops⟩) := fun h => by unfold DS.read DS.ask; simp [hB, h]
      have hfin1 : fuse ≠ 0 → (DS.mk held pend false fuse ops).read (j : Int) = ((DS.mk held pend false fuse ops).at (j : Int), 0, ⟨held, pend, false, max (-1) (fuse - 1), ops + 1⟩) := fun h => by unfold DS.read DS.ask; simp [hB, h]
      replace hfin0 := Lib.hid hfin0
      replace hfin1 := Lib.hid hfin1
      replace hB := Lib.hid hB
      gi_wp2_with fail
      refine (callsIn_wide.2 (goes_calls hR0 hf.2 ho)).mono ?_
      rintro e w1 (⟨h0, rfl, hpost⟩ | ⟨h0, rfl, hpost⟩)
      · have h0 : fuse = 0 := h0
        replace hfin0 := Lib.hid (hfin0.out h0)
        clear hfin1 h0
        gi_wp2
        refine ⟨rfl, _, results_tmp2 rfl _ _ _, ?_⟩
        rw [hfin0.out]
        exact ⟨rfl, hpost⟩
      · have h0 : fuse ≠ 0 := h0
        replace hfin1 := Lib.hid (hfin1.out h0)
        clear hfin0 h0 g0 g2 hCh hlh hr hd hR0
        obtain ⟨F1, ⟨vh, vp, armed, fz, hd, hr⟩, hF1, hk1⟩ := hpost
        dsimp only at hd
        have hrh : Kd.R Kd.string 9 w1 0 F1 vh held := hr.rh
        have hrp : Kd.R k43 43 w1 0 F1 vp pend := hr.rp
        obtain ⟨Ah, ch, rfl, hlh, hCh⟩ := Kd.R_reads hrh
        obtain ⟨Ap, cp, rfl, hlp, hCp⟩ := Kd.R_reads hrp
        have hlast : RefPost w d F ⟨held, pend, false, max (-1) (fuse - 1), ops + 1⟩ w1 := ⟨F1, ⟨_, _, armed, fz, hd, hr⟩, hF1, hk1⟩
        obtain ⟨ad, hA, hcell⟩ := Kd.at_string hCh (j : Int) (by omega) (by omega)
        subst hA
        rw [Int.toNat_natCast] at hcell
        have g0 : w1.cell? ⟨d, 0, none⟩ = some (.slice (some ad) held.length ch) := hd.cell 0
        have g1 : w1.cell? ⟨d, 1, none⟩ = some (.slice Ap pend.length cp) := hd.cell 1
        have hat : Hid ((DS.mk held pend false fuse ops).at (j : Int) = (lastOf (pend.take pend.length) (j : Int)).getD (rdOf ByteArray.empty held (j : Int))) := Lib.hid (by rw [List.take_of_length_le (Nat.le_refl _)]; rfl)
        generalize rdOf ByteArray.empty held (j : Int) = x0 at *
        clear hr hrh hrp hCh hd hf ho hk1 hF1 hn hn2
        gi_wp2_with fail
        gi_loopw [6, 7] (fun u v wr => ∃ k : Nat, k ≤ pend.length ∧ v = .int .i64 (k : Int) ∧ u = .string ((lastOf (pend.take k) (j : Int)).getD x0) ∧ wr = w1)
          (fun _ v _ => pend.length - (intOf v).toNat)
        case atStart => exact ⟨0, Nat.zero_le _, rfl, rfl, rfl⟩
        case round =>
          obtain ⟨k, hk, rfl, rfl, rfl⟩ := hrel
          rcases Nat.lt_or_ge k pend.length with hkl | hkl
          · have hkl' : (k : Int) < pend.length := by omega
            have hk0 : 0 ≤ (k : Int) := by omega
            obtain ⟨ap, hA, c0, c1⟩ := at_T43 hCp (k : Int) (by omega) (by omega)
            subst hA
            rw [Int.toNat_natCast] at c0 c1
            have hstep : Hid (lastOf (pend.take (k + 1)) (j : Int) = if (rd_T43 pend (k : Int)).f0 = (j : Int) then some (rd_T43 pend (k : Int)).f1 else lastOf (pend.take k) (j : Int)) := Lib.hid (by rw [rd_taken pend hkl, lastOf_snoc])
            generalize rd_T43 pend (k : Int) = p at *
            obtain ⟨p0, p1⟩ := p
            dsimp only at c0 c1 hstep
            by_cases he : p0 = (j : Int)
            · subst he
              gi_wp2
              go_roundw
              case rel => exact ⟨k + 1, by omega, by go_num, by rw [hstep.out, if_pos rfl]; rfl, trivial⟩
              case measure => simp [intOf]; omega
            · have hb : (p0 == (j : Int)) = false := by rw [beq_eq_false_iff_ne]; exact he
              gi_wp2
              go_roundw
              case rel => exact ⟨k + 1, by omega, by go_num, by rw [hstep.out, if_neg he], trivial⟩
              case measure => simp [intOf]; omega
          · obtain rfl : k = pend.length := by omega
            gi_wp2
            refine ⟨rfl, _, results_tmp2 rfl _ _ _, ?_⟩
            rw [hfin1.out]
            refine ⟨?_, hlast⟩
            rw [hat.out]
            rfl
theorem refRead_disk_calls (d : Nat) (F : Nat → Prop) (s : DS) (i : Int) (w : World) (hR : RefAt w d F s) (hf : -1 ≤ s.fuse ∧ s.fuse ≤ 1000000) (ho : 0 ≤ s.ops ∧ s.ops ≤ 1000000) (hp : s.pend.length ≤ 1000000) :
    Calls Try.prog 38 #[.pointer (some ⟨d, 0, none⟩), .int .i64 i] w fun e w' => e = .returned (.tuple #[.string (s.read i).1, .int .i64 (s.read i).2.1]) ∧ RefPost w d F (s.read i).2.2 w' := (callsIn_wide (n := 9)).1 (refRead_disk_in d F s i w hR hf ho hp)
end Go.Proofs.Ytknibnbepmdapaa
