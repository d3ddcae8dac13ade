/-
FatePuts: the walk of its body.
-/
import Derived.Test.YtknibnbepmdapaaJa
import Derived.Test.YtknibnbepmdapaaGd
import Derived.Deep.Upon
namespace Go.Proofs.Ytknibnbepmdapaa
open Go.RowKit Go.Shelf Go.Proofs.YtknibnbepmdapaaW.PrintWords
attribute [local go_sem] Oper.semAt_some

theorem append_bools (W : World) (base g : Nat) (hB : Blk W g 4 #[]) (hb : base ≤ g) (A : Option Addr) (m c : Nat) (xs : List Bool) (hx : xs.length = m) (hC : Kd.C Kd.bool W A m xs) (hm : m ≤ 5000) :
    ∃ v' w', (Builtin.append_ #[22, 22] 22 #[.slice (some ⟨g, 0, none⟩) 0 0, .slice A m c]).run Try.prog W = .ok v' w' ∧ w'.ownsRow base 4 1 v' m (encs Value.bool xs) ∧ W.grownBy w' (some g) := by
  have hown : W.ownsRow base 4 1 (.slice (some ⟨g, 0, none⟩) 0 0) 0 (encs Value.bool []) := Blk.owns (xs := ([] : List Bool)) (enc := Value.bool) hB hb (by decide)
  obtain ⟨i0, hi, hz0, hz1, hz2'⟩ := info_parts info4
  cases A with
  | none =>
    obtain rfl : m = 0 := by
      rcases Nat.eq_zero_or_pos m with h | h
      · exact h
      · obtain ⟨ad, e, _⟩ := hC.2.2 h
        cases e
    obtain rfl : xs = [] := List.eq_nil_of_length_eq_zero hx
    refine ⟨_, W, run_append_nothing W 22 22 22 4 i0 Try.underlying22 hi _ 0 0 (Nat.le_refl _) _ ⟨.inl ⟨4, Try.underlying22⟩, fun w => by simp [Builtin.lenOf], by simp [Builtin.firstCells], by simp [Builtin.firstCells], by simp, fun u hu => by cases hu⟩, hown, grown_of_below (Below.refl _ _) _⟩
  | some ad =>
    have hcl : ∀ (j : Nat) u, (encs Value.bool xs)[j]? = some u → W.cell? (ad.add j) = some u := by
      intro j u hu
      unfold encs at hu
      rw [List.getElem?_map] at hu
      obtain ⟨b, hb', rfl⟩ := Option.map_eq_some_iff.1 hu
      obtain ⟨hj, hbj⟩ := List.getElem?_eq_some_iff.1 hb'
      obtain ⟨ad', e, _, h⟩ := bool_at hC (k := j) (by omega)
      cases e
      rw [h, List.getD_eq_getElem?_getD, hb']
      rfl
    obtain ⟨v', w', hrun, hown', hgrow, _⟩ := run_append_own (P := Try.prog) W base 22 22 4 i0 (.bool false) 1 1 Try.underlying22 hi hz0 hz1 hz2' rfl (by decide) (.slice (some ⟨g, 0, none⟩) 0 0) 0 (encs Value.bool []) hown ad m c (encs Value.bool xs) (by simp [encs, hx]) hcl (fun u hu => by unfold encs at hu; obtain ⟨b, _, rfl⟩ := List.mem_map.1 hu; rfl) (by unfold maxLen; omega) (by omega) (by have := hB.lt; omega)
    refine ⟨v', w', hrun, ?_, hgrow⟩
    rw [Nat.zero_add] at hown'
    exact hown'

set_option maxRecDepth 100000 in
set_option maxHeartbeats 1000000 in
theorem fatePuts_in (A : Option Addr) (c0 : Nat) (C : List Bool) (torn at_ : Int) (Ac : Option Addr) (cc : Nat) (cs : List Int) (n : Int) (w : World) (hr : Kd.C Kd.bool w A C.length C) (hc0 : C.length ≤ c0) (hrc : Kd.C (Kd.int .u8) w Ac cs.length cs) (hbyte : Bytes cs) (hn : 0 ≤ n ∧ n < 256) :
    CallsIn Fence.wide 9 Try.prog 3 #[.agg #[.slice A C.length c0, .int .i64 torn, .int .i64 at_], .slice Ac cs.length cc, .int .u8 n] w fun e w' => e = .returned (.bool true) ∧ Below w.heap.size w w' := by
  have hF : ∀ f, Fence.wide.fn f := fun _ => trivial
  refine callsIn_of_wp Try.func3 rfl (hF _) ?_ rfl
  simp only [Try.ntmps3, List.size_toArray, List.length_cons, List.length_nil, Nat.reduceAdd, Nat.reduceSub, Array.replicate_succ, Array.replicate_zero, List.push_toArray, List.append_toArray, List.nil_append, List.cons_append]
  have hmax := Kd.C_max hr
  obtain ⟨m, hm, hmC, hm5⟩ : ∃ m : Nat, m = min C.length 5000 ∧ m ≤ C.length ∧ m ≤ 5000 := ⟨_, rfl, by omega, by omega⟩
  obtain ⟨hn0, hn1⟩ := hn
  obtain ⟨w1, hw1⟩ : ∃ w1, (w.alloc (.cells #[.slice A C.length c0, .int .i64 torn, .int .i64 at_] 24)).alloc (.cells #[] 4) = w1 := ⟨_, rfl⟩
  have b1 : Blk w1 w.heap.size 24 #[.slice A C.length c0, .int .i64 torn, .int .i64 at_] := by rw [← hw1]; exact (Blk.new w 24 _).alloc _
  have b2 : Blk w1 (w.heap.size + 1) 4 #[] := by rw [← hw1]; have := Blk.new (w.alloc (.cells #[.slice A C.length c0, .int .i64 torn, .int .i64 at_] 24)) 4 #[]; simpa using this
  have hb1 : Below w.heap.size w w1 := by rw [← hw1]; exact below_alloc (below_alloc (Below.refl _ _) _) _
  have htl : (C.take m).length = m := by rw [List.length_take]; omega
  have hC' : Kd.C Kd.bool w1 A m (C.take m) := by have := Kd.C_take (Kd.C_below hr hb1) hmC; rwa [htl] at this
  obtain ⟨v', w2, hrun, hown, hgrow⟩ := append_bools w1 w.heap.size (w.heap.size + 1) b2 (by omega) A m c0 (C.take m) (by rw [List.length_take]; omega) hC' hm5
  have hne1 : some w.heap.size ≠ some (w.heap.size + 1) := by simp
  have b3 : Blk w2 w.heap.size 24 #[.slice A C.length c0, .int .i64 torn, .int .i64 at_] := b1.grown hgrow hne1
  have hb2 : Below w.heap.size w w2 := hb1.grown hgrow (by have := hb1.size; omega) (fun k e => by cases e; omega)
  obtain ⟨A2, c2, rfl⟩ := own_slice hown
  have hR2 : Kd.R Kd.bool 4 w2 w.heap.size (fun k => k ≠ w.heap.size) (.slice A2 m c2) (C.take m) := Kd.R_of_own (by rw [htl]; exact hown) (fun g hg => fun e => by subst e; exact own_ne hown b3 (by decide) hg.symm)
  have hlo : Hid (C.length ≤ 5000 → m = C.length) := Lib.hid (by omega)
  have hhi : Hid (5000 < C.length → m = 5000) := Lib.hid (by omega)
  obtain ⟨D0, hD0⟩ : ∃ D0, C.take m = D0 := ⟨_, rfl⟩
  rw [hD0] at hR2 htl
  have hl0 : D0.length ≤ 5000 := by omega
  clear hm hD0 htl hC' hown
  subst hw1
  have f1 := b3.frozen 0
  have f2 := b3.cell 0
  have hmc : (m : Int) ≤ c0 := by omega
  rcases Nat.lt_or_ge 5000 C.length with h5 | h5
  · have h5' : (5000 : Int) < C.length := by omega
    obtain rfl := hhi.out h5
    gi_wp2_with (gi_at_builtin; refine wpListIn_append_run _ rfl _ _ _ _ rfl _ _ rfl rfl hrun ?_)
    gi_loopw [7] (fun s wr => ∃ (i base : Nat) (v : Value) (D : List Bool) (t a : Int), i ≤ 2 ∧ s = .int .i64 (i : Int) ∧ Blk wr w.heap.size 24 #[v, .int .i64 t, .int .i64 a] ∧ Kd.R Kd.bool 4 wr base (fun k => k ≠ w.heap.size) v D ∧ D.length ≤ 5000 ∧ Below w.heap.size w wr)
      (fun s _ => 2 - (intOf s).toNat)
    case atStart => exact ⟨0, w.heap.size, _, D0, torn, at_, by decide, rfl, b3.set 0 _, Kd.R_far hR2 (p := ⟨w.heap.size, 0, none⟩) (fun _ h => h) _, hl0, hb2.setCell (p := ⟨w.heap.size, 0, none⟩) (Nat.le_refl _) _⟩
    case round =>
      obtain ⟨i, base, v, D, t, a, hi, rfl, j1, hR, hlD, hbW⟩ := hrel
      rcases Nat.lt_or_ge i 2 with hi2 | hi2
      · have hi2' : (i : Int) < 2 := by omega
        obtain ⟨Av, cv, rfl, hlc, hCv⟩ := Kd.R_reads hR
        have g0 : wr.cell? ⟨w.heap.size, 0, none⟩ = some (.slice Av D.length cv) := j1.cell 0
        have g1 : wr.cell? ⟨w.heap.size, 1, none⟩ = some (.int .i64 t) := j1.cell 1
        have g2 : wr.cell? ⟨w.heap.size, 2, none⟩ = some (.int .i64 a) := j1.cell 2
        clear hR f1 f2 hR2 b3 hrun b1 b2
        gi_wp2_with fail
        refine (callsIn_wide.2 (put_calls Av cv D t a wr hCv)).mono ?_
        rintro e x1 ⟨p1, rfl, hP1, hx1⟩
        have j2 := j1.below hx1
        have hbx1 := below_then hbW hbW.size hx1
        have g0 : x1.cell? ⟨w.heap.size, 0, none⟩ = some (.slice Av D.length cv) := j2.cell 0
        have g1 : x1.cell? ⟨w.heap.size, 1, none⟩ = some (.int .i64 t) := j2.cell 1
        have g2 : x1.cell? ⟨w.heap.size, 2, none⟩ = some (.int .i64 a) := j2.cell 2
        gi_wp2_with fail
        refine (callsIn_wide.2 (putRef_calls Av cv D t a x1 (Kd.C_below hCv hx1) hlc (by omega))).mono ?_
        rintro e x2 ⟨p2, rfl, hP2, hx2⟩
        generalize fatePut D t a = F at *
        obtain ⟨bs, er⟩ := F
        dsimp only at hP1 hP2 ⊢
        obtain ⟨A1, k1, rfl, hl1, hC1⟩ := Kd.R_reads hP1
        obtain ⟨A2, k2, rfl, hl2, hC2⟩ := Kd.R_reads hP2
        have s1 : (convert 25 9 (.slice A1 bs.length k1)).run Try.prog x2 = .ok (.string (strOfNums bs)) x2 := Kd.C_string Try.underlying25 Try.underlying5 Try.underlying9 (Kd.C_below hC1 hx2)
        have s2 : (convert 25 9 (.slice A2 bs.length k2)).run Try.prog x2 = .ok (.string (strOfNums bs)) x2 := Kd.C_string Try.underlying25 Try.underlying5 Try.underlying9 hC2
        have j3 := j2.below hx2
        have hbx2 := below_then hbx1 hbx1.size hx2
        clear hP1 hP2
        gi_wp2_with fail
        refine (callsIn_wide.2 (readRef_calls Ac cc cs n x2 (Kd.C_below hrc hbx2) hbyte)).mono ?_
        rintro e x3 ⟨v3, rfl, hR3, hx3⟩
        have hl3 : (fateRead cs n).1.length ≤ 5000 := by unfold fateRead; rw [fateReadN_length]; omega
        generalize fateRead cs n = F3 at *
        obtain ⟨D3, t3, a3⟩ := F3
        dsimp only at hR3 hl3 ⊢
        obtain ⟨A3, k3, rfl, _, _⟩ := Kd.R_reads hR3
        have j4 := j3.below hx3
        have hbx3 := below_then hbx2 hbx2.size hx3
        have hz2 := hbx2.size
        have hzb := j3.lt
        have h0 := j4.frozen 0
        have h1 := j4.frozen 1
        have h2 := j4.frozen 2
        have g0 : x3.cell? ⟨w.heap.size, 0, none⟩ = some (.slice Av D.length cv) := j4.cell 0
        have g1 : x3.cell? ⟨w.heap.size, 1, none⟩ = some (.int .i64 t) := j4.cell 1
        have g2 : x3.cell? ⟨w.heap.size, 2, none⟩ = some (.int .i64 a) := j4.cell 2
        have hR4 : Kd.R Kd.bool 4 x3 x2.heap.size (fun k => k ≠ w.heap.size) (.slice A3 D3.length k3) D3 := Kd.R_mono (Kd.R_bound hR3) (fun k hk => by have := hk.2.1; omega)
        gi_wp2
        go_roundw
        case rel => exact ⟨i + 1, x2.heap.size, _, D3, t3, a3, by omega, by go_num, ((j4.set 0 _).set 1 _).set 2 _, Kd.R_far (Kd.R_far (Kd.R_far hR4 (p := ⟨w.heap.size, 0, none⟩) (fun _ h => h) _) (p := ⟨w.heap.size, 1, none⟩) (fun _ h => h) _) (p := ⟨w.heap.size, 2, none⟩) (fun _ h => h) _, hl3,
          ((hbx3.setCell (p := ⟨w.heap.size, 0, none⟩) (Nat.le_refl _) _).setCell (p := ⟨w.heap.size, 1, none⟩) (Nat.le_refl _) _).setCell (p := ⟨w.heap.size, 2, none⟩) (Nat.le_refl _) _⟩
        case measure => simp [intOf]; omega
      · obtain rfl : i = 2 := by omega
        gi_wp2_with fail
        refine (callsIn_wide.2 (works_calls _)).mono ?_
        rintro e w9 ⟨rfl, hb9⟩
        gi_wp2
        exact ⟨rfl, _, results_tmp rfl _ _ _, rfl, below_then hbW hbW.size hb9⟩
  · have h5' : (C.length : Int) ≤ 5000 := by omega
    obtain rfl := hlo.out h5
    gi_wp2_with (gi_at_builtin; refine wpListIn_append_run _ rfl _ _ _ _ rfl _ _ rfl rfl hrun ?_)
    gi_loopw [7] (fun s wr => ∃ (i base : Nat) (v : Value) (D : List Bool) (t a : Int), i ≤ 2 ∧ s = .int .i64 (i : Int) ∧ Blk wr w.heap.size 24 #[v, .int .i64 t, .int .i64 a] ∧ Kd.R Kd.bool 4 wr base (fun k => k ≠ w.heap.size) v D ∧ D.length ≤ 5000 ∧ Below w.heap.size w wr)
      (fun s _ => 2 - (intOf s).toNat)
    case atStart => exact ⟨0, w.heap.size, _, D0, torn, at_, by decide, rfl, b3.set 0 _, Kd.R_far hR2 (p := ⟨w.heap.size, 0, none⟩) (fun _ h => h) _, hl0, hb2.setCell (p := ⟨w.heap.size, 0, none⟩) (Nat.le_refl _) _⟩
    case round =>
      obtain ⟨i, base, v, D, t, a, hi, rfl, j1, hR, hlD, hbW⟩ := hrel
      rcases Nat.lt_or_ge i 2 with hi2 | hi2
      · have hi2' : (i : Int) < 2 := by omega
        obtain ⟨Av, cv, rfl, hlc, hCv⟩ := Kd.R_reads hR
        have g0 : wr.cell? ⟨w.heap.size, 0, none⟩ = some (.slice Av D.length cv) := j1.cell 0
        have g1 : wr.cell? ⟨w.heap.size, 1, none⟩ = some (.int .i64 t) := j1.cell 1
        have g2 : wr.cell? ⟨w.heap.size, 2, none⟩ = some (.int .i64 a) := j1.cell 2
        clear hR f1 f2 hR2 b3 hrun b1 b2
        gi_wp2_with fail
        refine (callsIn_wide.2 (put_calls Av cv D t a wr hCv)).mono ?_
        rintro e x1 ⟨p1, rfl, hP1, hx1⟩
        have j2 := j1.below hx1
        have hbx1 := below_then hbW hbW.size hx1
        have g0 : x1.cell? ⟨w.heap.size, 0, none⟩ = some (.slice Av D.length cv) := j2.cell 0
        have g1 : x1.cell? ⟨w.heap.size, 1, none⟩ = some (.int .i64 t) := j2.cell 1
        have g2 : x1.cell? ⟨w.heap.size, 2, none⟩ = some (.int .i64 a) := j2.cell 2
        gi_wp2_with fail
        refine (callsIn_wide.2 (putRef_calls Av cv D t a x1 (Kd.C_below hCv hx1) hlc (by omega))).mono ?_
        rintro e x2 ⟨p2, rfl, hP2, hx2⟩
        generalize fatePut D t a = F at *
        obtain ⟨bs, er⟩ := F
        dsimp only at hP1 hP2 ⊢
        obtain ⟨A1, k1, rfl, hl1, hC1⟩ := Kd.R_reads hP1
        obtain ⟨A2, k2, rfl, hl2, hC2⟩ := Kd.R_reads hP2
        have s1 : (convert 25 9 (.slice A1 bs.length k1)).run Try.prog x2 = .ok (.string (strOfNums bs)) x2 := Kd.C_string Try.underlying25 Try.underlying5 Try.underlying9 (Kd.C_below hC1 hx2)
        have s2 : (convert 25 9 (.slice A2 bs.length k2)).run Try.prog x2 = .ok (.string (strOfNums bs)) x2 := Kd.C_string Try.underlying25 Try.underlying5 Try.underlying9 hC2
        have j3 := j2.below hx2
        have hbx2 := below_then hbx1 hbx1.size hx2
        clear hP1 hP2
        gi_wp2_with fail
        refine (callsIn_wide.2 (readRef_calls Ac cc cs n x2 (Kd.C_below hrc hbx2) hbyte)).mono ?_
        rintro e x3 ⟨v3, rfl, hR3, hx3⟩
        have hl3 : (fateRead cs n).1.length ≤ 5000 := by unfold fateRead; rw [fateReadN_length]; omega
        generalize fateRead cs n = F3 at *
        obtain ⟨D3, t3, a3⟩ := F3
        dsimp only at hR3 hl3 ⊢
        obtain ⟨A3, k3, rfl, _, _⟩ := Kd.R_reads hR3
        have j4 := j3.below hx3
        have hbx3 := below_then hbx2 hbx2.size hx3
        have hz2 := hbx2.size
        have hzb := j3.lt
        have h0 := j4.frozen 0
        have h1 := j4.frozen 1
        have h2 := j4.frozen 2
        have g0 : x3.cell? ⟨w.heap.size, 0, none⟩ = some (.slice Av D.length cv) := j4.cell 0
        have g1 : x3.cell? ⟨w.heap.size, 1, none⟩ = some (.int .i64 t) := j4.cell 1
        have g2 : x3.cell? ⟨w.heap.size, 2, none⟩ = some (.int .i64 a) := j4.cell 2
        have hR4 : Kd.R Kd.bool 4 x3 x2.heap.size (fun k => k ≠ w.heap.size) (.slice A3 D3.length k3) D3 := Kd.R_mono (Kd.R_bound hR3) (fun k hk => by have := hk.2.1; omega)
        gi_wp2
        go_roundw
        case rel => exact ⟨i + 1, x2.heap.size, _, D3, t3, a3, by omega, by go_num, ((j4.set 0 _).set 1 _).set 2 _, Kd.R_far (Kd.R_far (Kd.R_far hR4 (p := ⟨w.heap.size, 0, none⟩) (fun _ h => h) _) (p := ⟨w.heap.size, 1, none⟩) (fun _ h => h) _) (p := ⟨w.heap.size, 2, none⟩) (fun _ h => h) _, hl3,
          ((hbx3.setCell (p := ⟨w.heap.size, 0, none⟩) (Nat.le_refl _) _).setCell (p := ⟨w.heap.size, 1, none⟩) (Nat.le_refl _) _).setCell (p := ⟨w.heap.size, 2, none⟩) (Nat.le_refl _) _⟩
        case measure => simp [intOf]; omega
      · obtain rfl : i = 2 := by omega
        gi_wp2_with fail
        refine (callsIn_wide.2 (works_calls _)).mono ?_
        rintro e w9 ⟨rfl, hb9⟩
        gi_wp2
        exact ⟨rfl, _, results_tmp rfl _ _ _, rfl, below_then hbW hbW.size hb9⟩
end Go.Proofs.Ytknibnbepmdapaa
