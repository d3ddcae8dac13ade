/-
The document's disk: Write, Barrier, Boot, New.
-/
import Derived.Test.YtknibnbepmdapaaEb
namespace Go.Proofs.Ytknibnbepmdapaa
open Go.RowKit Go.Shelf Go.Proofs.YtknibnbepmdapaaW.PrintWords Go.Proofs.Ytknibnbepmdapaa.PFate Go.ChangeMaps Go.Maps
attribute [local go_sem] Oper.semAt_some

/-- What holds of an own row is held while a row of another type grows. -/
theorem R_other {α β : Type} {k : Kd α} {k' : Kd β} {e e' : Nat} {w w1 : World} {F F' : Nat → Prop} {v u : Value} {xs : List α} {ys : List β} (h : Kd.R k e w 0 F v xs) (hu : Kd.R k' e' w 0 F' u ys) (ht : ∀ q, q ∈ e :: k.E → q ≠ e') (hg : w.grownBy w1 u.ownBlock) : Kd.R k e w1 0 F v xs := by
  refine Kd.R_mono (Kd.R_step (Kd.R_bound h) (fun j hj hlt => hg.block j hlt fun e => ?_)) (fun j hj => hj.1)
  obtain ⟨_, _, _, q, hq, cells, hc⟩ := hj
  obtain ⟨cells2, hc2⟩ := Kd.R_typed hu j e.symm
  rw [hc2] at hc
  injection hc with hc
  injection hc with _ hc
  exact ht q hq hc.symm

theorem Keeps.grow {w w1 w2 : World} {F : Nat → Prop} (h : Keeps w w1 F) {row : Option Nat} (hg : w1.grownBy w2 row) (hb : ∀ k, row = some k → F k ∨ w.heap.size ≤ k) : Keeps w w2 F :=
  ⟨hg.os.trans h.os, hg.tape.trans h.tape, hg.output.trans h.output, Nat.le_trans h.size hg.size, fun k hk hn => (hg.block k (by have := h.size; omega) (fun e => by rcases hb k e.symm with hb | hb; exact hn hb; omega)).trans (h.block k hk hn)⟩

set_option maxRecDepth 100000 in
set_option maxHeartbeats 1000000 in
theorem refWrite_in (d : Nat) (F : Nat → Prop) (s : DS) (i : Int) (str : ByteArray) (w : World) (hR : RefAt w d F s) (hf : -1 ≤ s.fuse ∧ s.fuse ≤ 1000000) (ho : 0 ≤ s.ops ∧ s.ops ≤ 1000000) (hp : s.pend.length ≤ 1000000) :
    CallsIn Fence.wide 9 Try.prog 39 #[.pointer (some ⟨d, 0, none⟩), .int .i64 i, .string str] w fun e w' => e = .returned (.int .i64 (s.write i str).1) ∧ RefPost w d F (s.write i str).2 w' := by
  have hF : ∀ f, Fence.wide.fn f := fun _ => trivial
  refine callsIn_of_wp Try.func39 rfl (hF _) ?_ rfl
  simp only [Try.ntmps39, List.size_toArray, List.length_cons, List.length_nil, Nat.reduceAdd, Nat.reduceSub, Array.replicate_succ, Array.replicate_zero, List.push_toArray, List.append_toArray, List.nil_append, List.cons_append]
  have hR0 := hR
  obtain ⟨vh, vp, armed, fz, hd, hr⟩ := hR
  obtain ⟨held, pend, off, fuse, ops⟩ := s
  dsimp only at hd hf ho hp
  obtain ⟨Ah, ch, rfl, hlh, hCh⟩ := Kd.R_reads hr.rh
  dsimp only at hlh hCh
  have g2 : w.cell? ⟨d, 2, none⟩ = some (.bool off) := hd.cell 2
  have g0 : w.cell? ⟨d, 0, none⟩ = some (.slice Ah held.length ch) := hd.cell 0
  cases off with
  | true =>
    have hfin : Hid ((DS.mk held pend true fuse ops).write i str = (10, ⟨held, pend, true, fuse, ops⟩)) := Lib.hid (by unfold DS.write DS.ask; simp)
    gi_wp2
    refine ⟨rfl, _, results_tmp rfl _ _ _, ?_⟩
    rw [hfin.out]
    exact ⟨rfl, RefPost.same hR0⟩
  | false =>
    cases hB : thereB i held.length && ((str.size : Int) == 256) with
    | false =>
      have hfin : Hid ((DS.mk held pend false fuse ops).write i str = (2, ⟨held, pend, false, fuse, ops⟩)) := Lib.hid (by unfold DS.write DS.ask; dsimp only; rw [hB]; simp)
      rcases (by omega : i < 0 ∨ (0 ≤ i ∧ (held.length : Int) ≤ i) ∨ (0 ≤ i ∧ i < held.length)) with h | ⟨h, h2⟩ | ⟨h, h2⟩
      · clear hB
        gi_wp2
        refine ⟨rfl, _, results_tmp rfl _ _ _, ?_⟩
        rw [hfin.out]
        exact ⟨rfl, RefPost.same hR0⟩
      · clear hB
        have hn : ¬ i < 0 := by omega
        gi_wp2
        refine ⟨rfl, _, results_tmp rfl _ _ _, ?_⟩
        rw [hfin.out]
        exact ⟨rfl, RefPost.same hR0⟩
      · rw [thereB_iff.2 ⟨h, h2⟩, Bool.true_and] at hB
        have hn : ¬ i < 0 := by omega
        have hn2 : ¬ (held.length : Int) ≤ i := by omega
        have hne : ((str.size : Int) != 256) = true := by rw [bne, hB]; rfl
        gi_wp2
        refine ⟨rfl, _, results_tmp rfl _ _ _, ?_⟩
        rw [hfin.out]
        exact ⟨rfl, RefPost.same hR0⟩
    | true =>
      obtain ⟨hB1, hB2⟩ := Bool.and_eq_true_iff.1 hB
      obtain ⟨hi0, hi1⟩ := thereB_iff.1 hB1
      have hn : ¬ i < 0 := by omega
      have hn2 : ¬ (held.length : Int) ≤ i := by omega
      have hne : ((str.size : Int) != 256) = false := by rw [bne, hB2]; rfl
      have hfin0 : fuse = 0 → (DS.mk held pend false fuse ops).write i str = (10, ⟨held, pend, true, -1, ops⟩) := fun h => by unfold DS.write DS.ask; dsimp only; rw [hB]; simp [h]
      have hfin1 : fuse ≠ 0 → (DS.mk held pend false fuse ops).write i str = (0, ⟨held, pend ++ [⟨i, str⟩], false, max (-1) (fuse - 1), ops + 1⟩) := fun h => by unfold DS.write DS.ask; dsimp only; rw [hB]; simp [h]
      replace hfin0 := Lib.hid hfin0
      replace hfin1 := Lib.hid hfin1
      replace hB := Lib.hid hB
      clear hB1 hB2
      gi_wp2_with fail
      refine (callsIn_wide.2 (goes_calls hR0 hf.2 ho)).mono ?_
      rintro e w1 (⟨h0, rfl, hpost⟩ | ⟨h0, rfl, hpost⟩)
      · have h0 : fuse = 0 := h0
        replace hfin0 := Lib.hid (hfin0.out h0)
        clear hfin1 h0
        gi_wp2
        refine ⟨rfl, _, results_tmp rfl _ _ _, ?_⟩
        rw [hfin0.out]
        exact ⟨rfl, hpost⟩
      · have h0 : fuse ≠ 0 := h0
        replace hfin1 := Lib.hid (hfin1.out h0)
        clear hfin0 h0 g0 g2 hCh hlh hr hd hR0
        obtain ⟨F1, ⟨vh, vp, armed, fz, hd, hr⟩, hF1, hk1⟩ := hpost
        dsimp only at hd
        have hrh : Kd.R Kd.string 9 w1 0 F1 vh held := hr.rh
        have hrp : Kd.R k43 43 w1 0 F1 vp pend := hr.rp
        have hfu := hr.fu
        have hfa := hr.fa
        have fd := hr.fd
        have hlt := hr.lt
        clear hr
        have g1 : w1.cell? ⟨d, 1, none⟩ = some vp := hd.cell 1
        have k6 : Below w1.heap.size w1 (w1.alloc (.cells #[.int .i64 i, .string str] 43)) := below_alloc (Below.refl _ _) _
        have b6 := Blk.new w1 43 #[.int .i64 i, .string str]
        have hd6 := hd.below k6
        have hp6 := Kd.R_below hrp k6
        have hh6 := Kd.R_below hrh k6
        obtain ⟨v1, w7, hrun, hR7, hg7⟩ := append_pend (w1.alloc (.cells #[.int .i64 i, .string str] 43)) F1 vp pend ⟨i, str⟩ w1.heap.size hp6 b6 hp 35
        obtain ⟨A1, c1, hv1⟩ := Kd.R_len hR7
        obtain ⟨m1, hm1⟩ : ∃ m1, (pend ++ [(⟨i, str⟩ : S43)]).length = m1 := ⟨_, rfl⟩
        rw [hm1] at hv1
        clear hm1
        subst hv1
        have hne1 : some d ≠ vp.ownBlock := Kd.R_ne hp6 hd6 (by decide)
        have hd7 := hd6.grown hg7 hne1
        have hh7 := R_other hh6 hp6 (fun q hq => by rcases List.mem_cons.1 hq with h | h; rw [h]; decide; cases h) hg7
        have z1 := hd7.frozen 1
        have hk7 : Keeps w w7 F := (hk1.trans (Keeps.of_below k6 F1) hF1).grow hg7 (fun k hk => hF1 k (hp6.1 k hk.symm.symm))
        have g1' : w7.cell? ⟨d, 1, none⟩ = some vp := hd7.cell 1
        obtain ⟨Ap, cp, rfl⟩ := Kd.R_len hrp
        have hsz6 : (w1.alloc (.cells #[.int .i64 i, .string str] 43)).heap.size = w1.heap.size + 1 := by simp
        have hsz7 := hg7.size
        have hlast : RefPost w d F ⟨held, pend ++ [⟨i, str⟩], false, max (-1) (fuse - 1), ops + 1⟩ (w7.setCell ⟨d, 1, none⟩ (.slice A1 m1 c1)) := by
          have fd' := hF1 d fd
          refine ⟨fun k => (F1 k ∨ w1.heap.size ≤ k) ∧ k < w7.heap.size, ⟨vh, .slice A1 m1 c1, armed, fz, hd7.set 1 _, ⟨?_, ?_, hfu, hfa, ⟨.inl fd, hd7.lt⟩, fun k hk => by have := hk.2; simpa using this⟩⟩, fun k hk => ?_, ?_⟩
          · exact Kd.R_set (Kd.R_mono (Kd.R_bound hh7) (fun k hk => ⟨.inl hk.1, hk.2.2.1⟩)) hd7 (by decide) 1 _
          · refine Kd.R_set (Kd.R_mono (Kd.R_bound hR7) (fun k hk => ⟨?_, hk.2.2.1⟩)) hd7 (by decide) 1 _
            rcases hk.1 with h | h
            · exact .inl h
            · exact .inr (by omega)
          · rcases hk.1 with h | h
            · exact hF1 k h
            · exact .inr (by have := hk1.size; omega)
          · exact hk7.set' fd (hF1 d fd) 1 _
        clear hR7 hg7 hh7 hh6 hp6 hd6 b6 hrp hrh hd hd7 hk7 hfu hfa hlt hF1 hk1 hne1
        gi_wp2_with (gi_at_builtin; refine wpListIn_append_run _ rfl _ _ _ _ rfl _ _ rfl rfl hrun ?_)
        refine ⟨rfl, _, results_tmp rfl _ _ _, ?_⟩
        rw [hfin1.out]
        exact ⟨rfl, hlast⟩
theorem refWrite_calls (d : Nat) (F : Nat → Prop) (s : DS) (i : Int) (str : ByteArray) (w : World) (hR : RefAt w d F s) (hf : -1 ≤ s.fuse ∧ s.fuse ≤ 1000000) (ho : 0 ≤ s.ops ∧ s.ops ≤ 1000000) (hp : s.pend.length ≤ 1000000) :
    Calls Try.prog 39 #[.pointer (some ⟨d, 0, none⟩), .int .i64 i, .string str] w fun e w' => e = .returned (.int .i64 (s.write i str).1) ∧ RefPost w d F (s.write i str).2 w' := (callsIn_wide (n := 9)).1 (refWrite_in d F s i str w hR hf ho hp)

set_option maxRecDepth 100000 in
set_option maxHeartbeats 1600000 in
theorem refBarrier_in (d : Nat) (F : Nat → Prop) (s : DS) (w : World) (hR : RefAt w d F s) (hP : PendOk s.held.length s.pend) (hn : s.held.length ≤ 100000) (hf : -1 ≤ s.fuse ∧ s.fuse ≤ 1000000) (ho : 0 ≤ s.ops ∧ s.ops ≤ 1000000) (hpl : s.pend.length ≤ 1000000) :
    CallsIn Fence.wide 9 Try.prog 40 #[.pointer (some ⟨d, 0, none⟩)] w fun e w' => e = .returned (.int .i64 s.barrier.1) ∧ RefPost w d F s.barrier.2 w' := by
  have hF : ∀ f, Fence.wide.fn f := fun _ => trivial
  refine callsIn_of_wp Try.func40 rfl (hF _) ?_ rfl
  simp only [Try.ntmps40, List.size_toArray, List.length_cons, List.length_nil, Nat.reduceAdd, Nat.reduceSub, Array.replicate_succ, Array.replicate_zero, List.push_toArray, List.append_toArray, List.nil_append, List.cons_append]
  have hR0 := hR
  obtain ⟨vh, vp, armed, fz, hd, hr⟩ := hR
  obtain ⟨held, pend, off, fuse, ops⟩ := s
  dsimp only at hd hf ho hP hn hpl
  have g2 : w.cell? ⟨d, 2, none⟩ = some (.bool off) := hd.cell 2
  cases off with
  | true =>
    have hfin : Hid ((DS.mk held pend true fuse ops).barrier = (10, ⟨held, pend, true, fuse, ops⟩)) := Lib.hid (by unfold DS.barrier DS.ask; simp)
    gi_wp2
    refine ⟨rfl, _, results_tmp rfl _ _ _, ?_⟩
    rw [hfin.out]
    exact ⟨rfl, RefPost.same hR0⟩
  | false =>
    have hfin0 : fuse = 0 → (DS.mk held pend false fuse ops).barrier = (10, ⟨held, pend, true, -1, ops⟩) := fun h => by unfold DS.barrier DS.ask; simp [h]
    have hfin1 : fuse ≠ 0 → (DS.mk held pend false fuse ops).barrier = (0, ⟨comeAll held pend, [], false, max (-1) (fuse - 1), ops + 1⟩) := fun h => by unfold DS.barrier DS.ask; simp [h]
    replace hfin0 := Lib.hid hfin0
    replace hfin1 := Lib.hid hfin1
    gi_wp2_with fail
    refine (callsIn_wide.2 (goes_calls hR0 hf.2 ho)).mono ?_
    rintro e w1 (⟨h0, rfl, hpost⟩ | ⟨h0, rfl, hpost⟩)
    · have h0 : fuse = 0 := h0
      replace hfin0 := Lib.hid (hfin0.out h0)
      clear hfin1 h0
      gi_wp2
      refine ⟨rfl, _, results_tmp rfl _ _ _, ?_⟩
      rw [hfin0.out]
      exact ⟨rfl, hpost⟩
    · have h0 : fuse ≠ 0 := h0
      replace hfin1 := Lib.hid (hfin1.out h0)
      clear hfin0 h0 g2 hr hd hR0
      obtain ⟨F1, ⟨vh, vp, armed, fz, hd, hr⟩, hF1, hk1⟩ := hpost
      dsimp only at hd
      have hrh : Kd.R Kd.string 9 w1 0 F1 vh held := hr.rh
      have hrp : Kd.R k43 43 w1 0 F1 vp pend := hr.rp
      have hfu := hr.fu
      have hfa := hr.fa
      have fd := hr.fd
      have hlt := hr.lt
      clear hr
      obtain ⟨Ap, cp, rfl⟩ := Kd.R_len hrp
      gi_wp2_with fail
      gi_loopw [3] (fun u wr => ∃ k : Nat, k ≤ pend.length ∧ u = .int .i64 (k : Int) ∧ Blk wr d 75 #[vh, .slice Ap pend.length cp, .bool false, .bool armed, .int .i64 fz, .int .i64 (ops + 1)] ∧ Kd.R Kd.string 9 wr 0 F1 vh (comeAll held (pend.take k)) ∧ Kd.R k43 43 wr 0 F1 (.slice Ap pend.length cp) pend ∧ Keeps w wr F ∧ w1.heap.size ≤ wr.heap.size)
        (fun u _ => pend.length - (intOf u).toNat)
      case atStart => exact ⟨0, Nat.zero_le _, rfl, hd, hrh, hrp, hk1, Nat.le_refl _⟩
      case round =>
        clear hd hrh hrp
        obtain ⟨k, hk, rfl, hd, hrh, hrp, hkw, hszw⟩ := hrel
        have f1 : wr.cell? ⟨d, 1, none⟩ = some (.slice Ap pend.length cp) := hd.cell 1
        rcases Nat.lt_or_ge k pend.length with hkl | hkl
        · have hkl' : (k : Int) < pend.length := by omega
          have hk0 : 0 ≤ (k : Int) := by omega
          obtain ⟨_, _, hCp⟩ := Kd.R_reads' hrp
          obtain ⟨ap, hA, c0, c1⟩ := at_T43 hCp (k : Int) (by omega) (by omega)
          subst hA
          rw [Int.toNat_natCast] at c0 c1
          have hHl : (comeAll held (pend.take k)).length = held.length := comeAll_length _ _
          have hmem : rd_T43 pend (k : Int) ∈ pend := by
            unfold rd_T43
            rw [Int.toNat_natCast, List.getD_eq_getElem?_getD, List.getElem?_eq_getElem hkl]
            exact List.getElem_mem _
          obtain ⟨⟨hj0, hj1⟩, _⟩ := hP _ hmem
          have hnext : comeAll held (pend.take (k + 1)) = (comeAll held (pend.take k)).set (rd_T43 pend (k : Int)).f0.toNat (rd_T43 pend (k : Int)).f1 := by rw [rd_taken pend hkl, comeAll_snoc]
          generalize rd_T43 pend (k : Int) = p at *
          obtain ⟨p0, p1⟩ := p
          dsimp only at c0 c1 hj0 hj1 hnext
          obtain ⟨j, rfl⟩ := Int.eq_ofNat_of_zero_le hj0
          rw [Int.toNat_natCast] at hnext
          obtain ⟨g, cap, hvh, _, hgl, cells, hgc⟩ := Kd.R_form hrh (by omega)
          have hrh2 : Kd.R Kd.string 9 wr 0 F1 (.slice (some ⟨g, 0, none⟩) (comeAll held (pend.take k)).length cap) (comeAll held (pend.take k)) := by rw [← hvh]; exact hrh
          rw [hHl] at hvh
          subst hvh
          obtain ⟨hc0, hc1⟩ := Kd.R_cell (ByteArray.empty) hrh2 (j : Int) (by omega) (by omega)
          rw [Int.toNat_natCast] at hc0 hc1
          have r3 := (Kd.R_put hrh2 (j : Int) p1).1
          rw [Int.toNat_natCast, ← hnext, hHl] at r3
          have hgd : g ≠ d := fun e => Kd.R_ne hrh2 hd (by decide) (by rw [← e]; rfl)
          have r2 : Blk (wr.setCell ⟨g, j, none⟩ (.string p1)) d 75 #[.slice (some ⟨g, 0, none⟩) held.length cap, .slice (some ap) pend.length cp, .bool false, .bool armed, .int .i64 fz, .int .i64 (ops + 1)] := hd.stay (fun e => hgd e.symm) _
          have r4 := Kd.R_set hrp hgc (by decide) j (.string p1)
          have r7 : Keeps w (wr.setCell ⟨g, j, none⟩ (.string p1)) F := hkw.set' (F' := F1) (hrh2.1 g rfl) (hF1 g (hrh2.1 g rfl)) j _
          have f0 : wr.cell? ⟨d, 0, none⟩ = some (.slice (some ⟨g, 0, none⟩) held.length cap) := hd.cell 0
          have hapb := World.block_lt_of_cell? _ _ c0
          have hgl' : g < wr.heap.size := hgl
          clear hnext hgc hHl hrp hrh hrh2 hkw hCp hmem
          gi_wp2_with fail
          refine wpIn_region_phases 20 [.pointer (some ⟨d, 0, none⟩), .pointer (some ⟨d, 0, none⟩), .pointer (some ⟨d, 0, none⟩), .slice (some ⟨g, 0, none⟩) held.length cap, .pointer (some ⟨d, 0, none⟩), .pointer (some ⟨d, 0, none⟩), .pointer (some ⟨d, 1, none⟩), .slice (some ap) pend.length cp, .int .i64 k, .pointer (some (ap.add (k * 2))), .pointer (some (ap.add (k * 2))), .int .i64 j, .pointer (some ⟨d, 0, none⟩), .pointer (some ⟨d, 0, none⟩), .pointer (some ⟨d, 1, none⟩), .slice (some ap) pend.length cp, .int .i64 k, .pointer (some (ap.add (k * 2))), .pointer (some ⟨(ap.add (k * 2)).block, (ap.add (k * 2)).off + 1, none⟩), .string p1]
            (fun W' => W' = wr.drew) (by kernel_rfl) (by kernel_rfl) rfl rfl ?st1 ?ta1
          case st1 =>
            rintro W' rfl
            have e0 : wr.drew.cell? ⟨d, 0, none⟩ = some (.slice (some ⟨g, 0, none⟩) held.length cap) := f0
            have e1 : wr.drew.cell? ⟨d, 1, none⟩ = some (.slice (some ap) pend.length cp) := f1
            have e2 : wr.drew.cell? (ap.add (k * 2)) = some (.int .i64 j) := c0
            have e3 : wr.drew.cell? ⟨(ap.add (k * 2)).block, (ap.add (k * 2)).off + 1, none⟩ = some (.string p1) := c1
            simp only [List.take_succ_cons, List.take_zero, AllIn, fillT, List.setIfInBounds_toArray, List.set_cons_zero, List.set_cons_succ]
            refine ⟨?_, ?_, ?_, ?_, ?_, ?_, ?_, ?_, ?_, ?_, ?_, ?_, ?_, ?_, ?_, ?_, ?_, ?_, ?_, ?_, trivial⟩
            all_goals
              gi_wp2
              exact ⟨rfl, rfl⟩
          case ta1 =>
            rintro W' rfl
            have e0 : wr.drew.cell? ⟨g, j, none⟩ = some (.string (rdOf ByteArray.empty (comeAll held (pend.take k)) (j : Int))) := hc0
            have e1 : wr.drew.frozen? ⟨g, j, none⟩ = false := hc1
            simp only [List.take_succ_cons, List.take_zero, List.drop_succ_cons, List.drop_zero, fillT, List.setIfInBounds_toArray, List.set_cons_zero, List.set_cons_succ]
            gi_wp2
            go_roundw
            case rel => exact ⟨k + 1, by omega, by go_num, r2.drew, Kd.R_drew r3, Kd.R_drew r4, ⟨r7.os, r7.tape, r7.output, r7.size, r7.block⟩, by simpa using hszw⟩
            case measure => simp [intOf]; omega
        · obtain rfl : k = pend.length := by omega
          rw [List.take_of_length_le (Nat.le_refl _)] at hrh
          have z1 := hd.frozen 1
          have hlast : RefPost w d F ⟨comeAll held pend, [], false, max (-1) (fuse - 1), ops + 1⟩ (wr.setCell ⟨d, 1, none⟩ (.slice none 0 0)) := by
            refine ⟨F1, ⟨vh, .slice none 0 0, armed, fz, hd.set 1 _, ⟨Kd.R_set hrh hd (by decide) 1 _, Kd.R_nil _ _ _ _ _, hfu, hfa, fd, fun k hk => by have := hlt k hk; simp; omega⟩⟩, hF1, hkw.set' fd (hF1 d fd) 1 _⟩
          clear hd hrh hrp hkw hfu hfa
          gi_wp2
          refine ⟨rfl, _, results_tmp rfl _ _ _, ?_⟩
          rw [hfin1.out]
          exact ⟨rfl, hlast⟩
theorem refBarrier_calls (d : Nat) (F : Nat → Prop) (s : DS) (w : World) (hR : RefAt w d F s) (hP : PendOk s.held.length s.pend) (hn : s.held.length ≤ 100000) (hf : -1 ≤ s.fuse ∧ s.fuse ≤ 1000000) (ho : 0 ≤ s.ops ∧ s.ops ≤ 1000000) (hpl : s.pend.length ≤ 1000000) :
    Calls Try.prog 40 #[.pointer (some ⟨d, 0, none⟩)] w fun e w' => e = .returned (.int .i64 s.barrier.1) ∧ RefPost w d F s.barrier.2 w' := (callsIn_wide (n := 9)).1 (refBarrier_in d F s w hR hP hn hf ho hpl)
end Go.Proofs.Ytknibnbepmdapaa
