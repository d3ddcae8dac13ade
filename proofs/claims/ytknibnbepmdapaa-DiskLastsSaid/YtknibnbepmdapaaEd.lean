/-
The document's disk: Boot and New.
-/
import Derived.Test.YtknibnbepmdapaaEc
namespace Go.Proofs.Ytknibnbepmdapaa
open Go.RowKit Go.Shelf Go.Proofs.YtknibnbepmdapaaW.PrintWords Go.Proofs.Ytknibnbepmdapaa.PFate Go.ChangeMaps Go.Maps
attribute [local go_sem] Oper.semAt_some

theorem fateRead_len (cs : List Int) (n : Int) : (fateRead cs n).1.length ≤ 4096 := by unfold fateRead; rw [fateReadN_length]; omega

set_option maxRecDepth 100000 in
set_option maxHeartbeats 1600000 in
theorem refBoot_in (d : Nat) (F : Nat → Prop) (s : DS) (A : Option Addr) (c0 : Nat) (cs : List Int) (w : World) (hR : RefAt w d F s) (hcs : Kd.C (Kd.int .u8) w A cs.length cs) (hby : Bytes cs) (h256 : All256 s.held) (hn : s.held.length ≤ 100000) (hpl : s.pend.length ≤ 1000000) :
    CallsIn Fence.wide 9 Try.prog 42 #[.pointer (some ⟨d, 0, none⟩), .slice A cs.length c0] w fun e w' => e = .returned (.tuple #[]) ∧ RefPost w d F (s.boot cs) w' := by
  have hF : ∀ f, Fence.wide.fn f := fun _ => trivial
  refine callsIn_of_wp Try.func42 rfl (hF _) ?_ rfl
  simp only [Try.ntmps42, List.size_toArray, List.length_cons, List.length_nil, Nat.reduceAdd, Nat.reduceSub, Array.replicate_succ, Array.replicate_zero, List.push_toArray, List.append_toArray, List.nil_append, List.cons_append]
  obtain ⟨vh, vp, armed, fz, hd, hr⟩ := hR
  obtain ⟨held, pend, off, fuse, ops⟩ := s
  have hrh : Kd.R Kd.string 9 w 0 F vh held := hr.rh
  have hrp : Kd.R k43 43 w 0 F vp pend := hr.rp
  dsimp only at hd h256 hn hpl
  obtain ⟨Ah, ch, rfl, hlh, hCh⟩ := Kd.R_reads hrh
  obtain ⟨Ap, cp, rfl, hlp, hCp⟩ := Kd.R_reads hrp
  have hlt := hr.lt
  have fd := hr.fd
  clear hr
  gi_wp2_with fail
  refine wpIn_region_mixed [15, 16, 17, 18, 19] [.pointer (some ⟨d, 0, none⟩), .pointer (some ⟨d, 0, none⟩), .pointer (some ⟨d, 0, none⟩), .pointer (some ⟨d, 0, none⟩), .slice Ah held.length ch, .pointer (some ⟨d, 0, none⟩), .pointer (some ⟨d, 0, none⟩), .pointer (some ⟨d, 1, none⟩), .slice Ap pend.length cp, .slice A cs.length c0, .pointer (some ⟨d, 0, none⟩), .pointer (some ⟨d, 0, none⟩), .pointer (some ⟨d, 1, none⟩), .slice Ap pend.length cp, .int .i64 pend.length] (fun W' => Below w.heap.size w W') (by kernel_rfl) (by kernel_rfl) rfl (by decide) ?fl1 ?ch1
  case fl1 =>
    intro W' hb
    have f0 : W'.cell? ⟨d, 0, none⟩ = some (.slice Ah held.length ch) := (hd.below hb).cell 0
    have f1 : W'.cell? ⟨d, 1, none⟩ = some (.slice Ap pend.length cp) := (hd.below hb).cell 1
    clear hb
    simp only [floatsFrom, List.contains_cons, List.contains_nil, Nat.reduceBEq, Nat.reduceAdd, Bool.or_false, Bool.or_true, if_true, if_false, Bool.false_eq_true, AllIn, fillT, List.setIfInBounds_toArray, List.set_cons_zero, List.set_cons_succ]
    refine ⟨?_, ?_, ?_, ?_, ?_, ?_, ?_, ?_, ?_, ?_, ?_, ?_, ?_, ?_, ?_, trivial⟩
    all_goals
      gi_wp2
      exact ⟨rfl, rfl⟩
  case ch1 =>
    simp only [floatsFrom, List.contains_cons, List.contains_nil, Nat.reduceBEq, Nat.reduceAdd, Bool.or_false, Bool.or_true, if_true, if_false, Bool.false_eq_true, fillT, List.setIfInBounds_toArray, List.set_cons_zero, List.set_cons_succ]
    refine ⟨(Below.refl _ _).drew, fun o ho => ?_⟩
    simp only [List.getElem?_toArray, List.getElem?_cons_succ, List.getElem?_cons_zero, Option.some.injEq] at ho
    subst ho
    gi_wp2_with fail
    refine (callsIn_wide.2 (readRef_calls A c0 cs (pend.length : Int) w.drew (Kd.C_drew hcs) hby)).mono ?_
    rintro e w1 ⟨v, rfl, hR1, hb1⟩
    have hb1' : Below w.heap.size w w1 := below_then (Below.refl _ w).drew (Nat.le_refl _) hb1
    have hszw1 := hb1'.size
    have hlF := fateRead_len cs (pend.length : Int)
    obtain ⟨FF, hFF⟩ : ∃ FF, fateRead cs (pend.length : Int) = FF := ⟨_, rfl⟩
    have hfin : Hid (DS.boot ⟨held, pend, off, fuse, ops⟩ cs = ⟨fateAfter held pend FF.1 FF.2.1 FF.2.2, [], false, -1, ops⟩) := Lib.hid (by unfold DS.boot; rw [hFF])
    rw [hFF] at hR1 hlF ⊢
    clear hFF
    obtain ⟨fc, ft, fa⟩ := FF
    dsimp only at hR1 hfin hlF ⊢
    obtain ⟨Af, cf, hv, hlf, hCf⟩ := Kd.R_reads hR1
    subst hv
    gi_wp2
    refine ⟨rfl, hb1', fun o ho => ?_⟩
    simp only [List.getElem?_toArray, List.getElem?_cons_succ, List.getElem?_cons_zero, Option.some.injEq] at ho
    subst ho
    gi_wp2_with fail
    refine (callsIn_wide.2 (refAfter_calls Ah ch held Ap cp pend Af cf fc ft fa w1 (Kd.C_below hCh hb1') hlh (Kd.C_below hCp hb1') hlp hCf hlf h256 (by omega) (by omega) (by omega))).mono ?_
    rintro e w2 ⟨v2, rfl, hR2, hb2⟩
    have hb2' : Below w.heap.size w w2 := below_then hb1' hb1'.size hb2
    generalize fateAfter held pend fc ft fa = R at *
    obtain ⟨Ar, cr, hv2⟩ := Kd.R_len hR2
    subst hv2
    gi_wp2
    refine ⟨rfl, hb2', fun o ho => ?_⟩
    simp only [List.getElem?_toArray, List.getElem?_cons_succ, List.getElem?_cons_zero, Option.some.injEq] at ho
    subst ho
    gi_wp2
    refine ⟨rfl, hb2', fun o ho => ?_⟩
    simp only [List.getElem?_toArray, List.getElem?_cons_succ, List.getElem?_cons_zero, Option.some.injEq] at ho
    subst ho
    gi_wp2
    refine ⟨rfl, hb2', fun o ho => ?_⟩
    simp only [List.getElem?_toArray, List.getElem?_cons_succ, List.getElem?_cons_zero, Option.some.injEq] at ho
    subst ho
    have hd2 := hd.below hb2'
    have f0 : w2.cell? ⟨d, 0, none⟩ = some (.slice Ah held.length ch) := hd2.cell 0
    have z0 := hd2.frozen 0
    have hR2' := Kd.R_made hR2 F
    clear hR1 hCf hb1 hb1' hCh hCp hR2
    gi_wp2
    refine ⟨rfl, ?_⟩
    simp only [ChainIn]
    have hsz2 := hb2.size
    have hR3 : Kd.R Kd.string 9 (w2.setCell ⟨d, 0, none⟩ (.slice Ar R.length cr)) 0 (fun k => (F k ∨ w1.heap.size ≤ k) ∧ k < w2.heap.size) (.slice Ar R.length cr) R :=
      Kd.R_set (Kd.R_mono (Kd.R_bound hR2') (fun k hk => ⟨hk.1, hk.2.2.1⟩)) hd2 (by decide) 0 _
    have hd3 : Blk (w2.setCell ⟨d, 0, none⟩ (.slice Ar R.length cr)) d 75 #[.slice Ar R.length cr, .slice Ap pend.length cp, .bool off, .bool armed, .int .i64 fz, .int .i64 ops] := hd2.set 0 _
    have k3 : Keeps w (w2.setCell ⟨d, 0, none⟩ (.slice Ar R.length cr)) F := (Keeps.of_below hb2' F).set fd 0 _
    have hsz3 : (w2.setCell ⟨d, 0, none⟩ (.slice Ar R.length cr)).heap.size = w2.heap.size := by simp
    clear hd2 hR2' f0 z0 hd hb2
    generalize w2.setCell ⟨d, 0, none⟩ (.slice Ar R.length cr) = W3 at *
    have f2 : W3.cell? ⟨d, 2, none⟩ = some (.bool off) := hd3.cell 2
    have f3 : W3.cell? ⟨d, 3, none⟩ = some (.bool armed) := hd3.cell 3
    have f1 : W3.cell? ⟨d, 1, none⟩ = some (.slice Ap pend.length cp) := hd3.cell 1
    have z1 := hd3.frozen 1
    have z2 := hd3.frozen 2
    have z3 := hd3.frozen 3
    have hsz1 : w.heap.size ≤ w1.heap.size := hszw1
    have hlast : RefPost w d F ⟨R, [], false, -1, ops⟩ (((W3.setCell ⟨d, 1, none⟩ (.slice none 0 0)).setCell ⟨d, 2, none⟩ (.bool false)).setCell ⟨d, 3, none⟩ (.bool false)) := by
      refine ⟨fun k => (F k ∨ w1.heap.size ≤ k) ∧ k < w2.heap.size, ⟨_, _, false, fz, ((hd3.set 1 (.slice none 0 0)).set 2 (.bool false)).set 3 (.bool false), ⟨R_setd (R_setd (R_setd hR3 hd3 (by decide) 1 _) (hd3.set 1 _) (by decide) 2 _) ((hd3.set 1 _).set 2 _) (by decide) 3 _, Kd.R_nil _ _ _ _ _, rfl, (fun h => by cases h), ⟨.inl fd, by have := hlt d fd; have := hb2'.size; omega⟩, fun k hk => by have := hk.2; simp; omega⟩⟩, fun k hk => ?_, ?_⟩
      · rcases hk.1 with h | h
        · exact .inl h
        · exact .inr (by omega)
      · exact ((k3.set fd 1 _).set fd 2 _).set fd 3 _
    clear hd3 hR3 k3
    gi_wp2
    refine ⟨rfl, _, results_no rfl _ _ _, rfl, ?_⟩
    rw [hfin.out]
    exact hlast
theorem refBoot_calls (d : Nat) (F : Nat → Prop) (s : DS) (A : Option Addr) (c0 : Nat) (cs : List Int) (w : World) (hR : RefAt w d F s) (hcs : Kd.C (Kd.int .u8) w A cs.length cs) (hby : Bytes cs) (h256 : All256 s.held) (hn : s.held.length ≤ 100000) (hpl : s.pend.length ≤ 1000000) :
    Calls Try.prog 42 #[.pointer (some ⟨d, 0, none⟩), .slice A cs.length c0] w fun e w' => e = .returned (.tuple #[]) ∧ RefPost w d F (s.boot cs) w' := (callsIn_wide (n := 9)).1 (refBoot_in d F s A c0 cs w hR hcs hby h256 hn hpl)

theorem info9 : (Try.prog.info? 9).map (fun i => (i.zero, i.size, i.bytes)) = some (some (.string ⟨#[]⟩), 1, 16) := by kernel_rfl
theorem append_str (W : World) (F : Nat → Prop) (vh : Value) (held : List ByteArray) (x : ByteArray) (g : Nat) (hR : Kd.R Kd.string 9 W 0 F vh held) (hg : Blk W g 9 #[.string x]) (hm : held.length ≤ 1000000) (ty : TypeId) :
    ∃ v1 w1, (Builtin.append_ #[33, 33] ty #[vh, .slice (some ⟨g, 0, none⟩) 1 1]).run Try.prog W = .ok v1 w1 ∧ Kd.R Kd.string 9 w1 0 (fun k => F k ∨ W.heap.size ≤ k) v1 (held ++ [x]) ∧ W.grownBy w1 vh.ownBlock := by
  obtain ⟨i0, hi, hz0, hz1, hz2⟩ := info_parts info9
  obtain ⟨h0, inner, hown, hr⟩ := hR
  obtain ⟨v1, w1, hrun, hown1, hg1, _, hat⟩ := run_append_own_at (P := Try.prog) W 0 33 ty 9 i0 _ 1 16 Try.underlying33 hi hz0 hz1 hz2 rfl (by decide) vh held.length inner hown ⟨g, 0, none⟩ 1 1 [.string x] rfl
    (fun j u hu => by
      rw [add_plain]
      match j, hu with
      | 0, hu => exact (hg.cell 0).trans hu
      | j + 1, hu => simp at hu)
    (fun u hu => by
      rw [List.mem_singleton] at hu
      subst hu; rfl)
    (by unfold maxLen; omega) (by omega) (Nat.zero_le _)
  refine ⟨v1, w1, hrun, Kd.R_appended (okp := fun _ => False) (fun k hk => .inl (h0 k hk)) (hr.imp_ (fun _ _ hq => Kd.string.M_mono (fun k hk => ⟨.inl hk.1, hk.2⟩) hq)) (show Kd.string.M W 0 _ x [.string x] from rfl) (fun k hk => hk.elim) (fun k hk => .inr hk) hown1 hg1 ?_, hg1⟩
  rcases hat with hat | hat
  · exact .inl hat
  · exact .inr ⟨_, hat, Nat.le_refl _⟩

theorem refNew_none (n : Int) (w : World) (hn : n < 64 ∨ 1024 < n) :
    Calls Try.prog 37 #[.int .i64 n] w fun e w' => e = .returned (.pointer none) ∧ w' = w := by
  refine (callsIn_wide (n := 9)).1 ?_
  have hF : ∀ f, Fence.wide.fn f := fun _ => trivial
  refine callsIn_of_wp Try.func37 rfl (hF _) ?_ rfl
  simp only [Try.ntmps37, List.size_toArray, List.length_cons, List.length_nil, Nat.reduceAdd, Nat.reduceSub, Array.replicate_succ, Array.replicate_zero, List.push_toArray, List.append_toArray, List.nil_append, List.cons_append]
  rcases hn with hn | hn
  · gi_wp2
    exact ⟨rfl, _, results_tmp rfl _ _ _, rfl, rfl⟩
  · have h1 : ¬ n < 64 := by omega
    gi_wp2
    exact ⟨rfl, _, results_tmp rfl _ _ _, rfl, rfl⟩

set_option maxRecDepth 100000 in
set_option maxHeartbeats 1600000 in
theorem refNew_in (n : Nat) (w : World) (hn : 64 ≤ n ∧ n ≤ 1024) :
    CallsIn Fence.wide 9 Try.prog 37 #[.int .i64 n] w fun e w' => ∃ d F, e = .returned (.pointer (some ⟨d, 0, none⟩)) ∧ RefAt w' d F (DS.new n) ∧ (∀ k, F k → w.heap.size ≤ k) ∧ Below w.heap.size w w' := by
  have hF : ∀ f, Fence.wide.fn f := fun _ => trivial
  refine callsIn_of_wp Try.func37 rfl (hF _) ?_ rfl
  simp only [Try.ntmps37, List.size_toArray, List.length_cons, List.length_nil, Nat.reduceAdd, Nat.reduceSub, Array.replicate_succ, Array.replicate_zero, List.push_toArray, List.append_toArray, List.nil_append, List.cons_append]
  obtain ⟨hn1, hn2⟩ := hn
  have h1 : ¬ (n : Int) < 64 := by omega
  have h2 : ¬ (1024 : Int) < n := by omega
  have mk2 : ∀ w, (Instr.makeSlice 25 (.int .i64 256) (.int .i64 256)).run Try.prog w = .ok (.slice (some ⟨w.heap.size, 0, none⟩) 256 256) (w.alloc (.cells noughts 5)) := fun w => make_bytes 256 (by omega) w
  gi_wp2_with fail
  obtain ⟨d, hdq⟩ : ∃ d, w.heap.size = d := ⟨_, rfl⟩
  obtain ⟨W1, hW1⟩ : ∃ W1, w.alloc (.cells #[.slice none 0 0, .slice none 0 0, .bool false, .bool false, .int .i64 0, .int .i64 0] 75) = W1 := ⟨_, rfl⟩
  have b0 : Blk W1 d 75 #[.slice none 0 0, .slice none 0 0, .bool false, .bool false, .int .i64 0, .int .i64 0] := by rw [← hW1, ← hdq]; exact Blk.new w 75 _
  have hb1 : Below w.heap.size w W1 := by rw [← hW1]; exact below_alloc (Below.refl _ _) _
  have hdw : w.heap.size ≤ d := Nat.le_of_eq hdq
  rw [hW1]
  try rw [hdq]
  clear hW1 hdq
  gi_loopw [4] (fun u wr => ∃ (i : Nat) (vh : Value), i ≤ n ∧ u = .int .i64 (i : Int) ∧ Blk wr d 75 #[vh, .slice none 0 0, .bool false, .bool false, .int .i64 0, .int .i64 0] ∧ Kd.R Kd.string 9 wr 0 (fun k => w.heap.size ≤ k) vh (List.replicate i (secS 0)) ∧ Below w.heap.size w wr)
    (fun u _ => n - (intOf u).toNat)
  case atStart => exact ⟨0, .slice none 0 0, Nat.zero_le _, rfl, b0, Kd.R_nil _ _ _ _ _, hb1⟩
  case round =>
    clear b0 hb1
    obtain ⟨i, vh, hi, rfl, hd, hR, hbW⟩ := hrel
    rcases Nat.lt_or_ge i n with hlt | hge
    · have hlt' : (i : Int) < n := by omega
      have hlen : (List.replicate i (secS 0)).length = i := List.length_replicate
      obtain ⟨Ah, ch, hvh⟩ := Kd.R_len hR
      rw [hlen] at hvh
      subst hvh
      gi_wp2_with fail
      refine wpIn_region_mixed [5, 6, 7, 8, 9, 10, 11] [.pointer (some ⟨d, 0, none⟩), .pointer (some ⟨d, 0, none⟩), .pointer (some ⟨d, 0, none⟩), .pointer (some ⟨d, 0, none⟩), .slice Ah i ch] (fun W' => W'.cell? ⟨d, 0, none⟩ = some (.slice Ah i ch)) (by kernel_rfl) (by kernel_rfl) rfl (by decide) ?fl2 ?ch2
      case fl2 =>
        intro W' f0
        simp only [floatsFrom, List.contains_cons, List.contains_nil, Nat.reduceBEq, Nat.reduceAdd, Bool.or_false, Bool.or_true, if_true, if_false, Bool.false_eq_true, AllIn, fillT, List.setIfInBounds_toArray, List.set_cons_zero, List.set_cons_succ]
        refine ⟨?_, ?_, ?_, ?_, ?_, trivial⟩
        all_goals
          gi_wp2
          exact ⟨rfl, rfl⟩
      case ch2 =>
        simp only [floatsFrom, List.contains_cons, List.contains_nil, Nat.reduceBEq, Nat.reduceAdd, Bool.or_false, Bool.or_true, if_true, if_false, Bool.false_eq_true, fillT, List.setIfInBounds_toArray, List.set_cons_zero, List.set_cons_succ]
        refine ⟨hd.cell 0, fun o ho => ?_⟩
        simp only [List.getElem?_toArray, List.getElem?_cons_succ, List.getElem?_cons_zero, Option.some.injEq] at ho
        subst ho
        have hd2 : Blk (wr.alloc (.cells noughts 5)).drew d 75 #[.slice Ah i ch, .slice none 0 0, .bool false, .bool false, .int .i64 0, .int .i64 0] := (hd.alloc _).drew
        have hR2 := Kd.R_drew (Kd.R_alloc hR (.cells noughts 5))
        have hb2 : Below w.heap.size w (wr.alloc (.cells noughts 5)).drew := (below_alloc hbW _).drew
        have s1 : (convert 25 9 (.slice (some ⟨wr.heap.size, 0, none⟩) 256 256)).run Try.prog (wr.alloc (.cells noughts 5)).drew = .ok (.string (secS 0)) (wr.alloc (.cells noughts 5)).drew := by
          have hb : Blk (wr.alloc (.cells noughts 5)).drew wr.heap.size 5 (encV (Value.int .u8) (List.replicate 256 0)) := (Blk.new wr 5 _).drew
          exact Kd.C_string Try.underlying25 Try.underlying5 Try.underlying9 (Blk.reads (enc := Value.int .u8) (h1 := fun _ => rfl) hb (by rw [List.length_replicate]; decide))
        gi_wp2
        refine ⟨rfl, hd2.cell 0, fun o ho => ?_⟩
        simp only [List.getElem?_toArray, List.getElem?_cons_succ, List.getElem?_cons_zero, Option.some.injEq] at ho
        subst ho
        gi_wp2
        refine ⟨rfl, hd2.cell 0, fun o ho => ?_⟩
        simp only [List.getElem?_toArray, List.getElem?_cons_succ, List.getElem?_cons_zero, Option.some.injEq] at ho
        subst ho
        have hd3 : Blk ((wr.alloc (.cells noughts 5)).alloc (.cells #[.string (secS 0)] 9)).drew d 75 #[.slice Ah i ch, .slice none 0 0, .bool false, .bool false, .int .i64 0, .int .i64 0] := ((hd.alloc _).alloc _).drew
        have hR3 : Kd.R Kd.string 9 ((wr.alloc (.cells noughts 5)).alloc (.cells #[.string (secS 0)] 9)).drew 0 (fun k => w.heap.size ≤ k) (.slice Ah i ch) (List.replicate i (secS 0)) := Kd.R_drew (Kd.R_alloc (Kd.R_alloc hR _) _)
        have hb3 : Below w.heap.size w ((wr.alloc (.cells noughts 5)).alloc (.cells #[.string (secS 0)] 9)).drew := (below_alloc (below_alloc hbW _) _).drew
        have bn : Blk ((wr.alloc (.cells noughts 5)).alloc (.cells #[.string (secS 0)] 9)).drew (wr.heap.size + 1) 9 #[.string (secS 0)] := by have := (Blk.new (wr.alloc (.cells noughts 5)) 9 #[.string (secS 0)]).drew; simpa using this
        gi_wp2
        refine ⟨rfl, hd3.cell 0, fun o ho => ?_⟩
        simp only [List.getElem?_toArray, List.getElem?_cons_succ, List.getElem?_cons_zero, Option.some.injEq] at ho
        subst ho
        obtain ⟨v1, w7, hrun, hR7, hg7⟩ := append_str _ _ _ _ _ _ hR3 bn (by rw [hlen]; omega) 33
        rw [← List.replicate_succ'] at hR7
        obtain ⟨A1, c1, hv1⟩ := Kd.R_len hR7
        rw [List.length_replicate] at hv1
        subst hv1
        have hne1 : some d ≠ (Value.slice Ah i ch).ownBlock := Kd.R_ne hR3 hd3 (by decide)
        have hd7 := hd3.grown hg7 hne1
        have f7 : w7.cell? ⟨d, 0, none⟩ = some (.slice Ah i ch) := hd7.cell 0
        have z7 := hd7.frozen 0
        have hb7 : Below w.heap.size w w7 := hb3.grown hg7 hb3.size (fun k hk => hR3.1 k hk.symm.symm)
        have hR8 : Kd.R Kd.string 9 (w7.setCell ⟨d, 0, none⟩ (.slice A1 (i + 1) c1)) 0 (fun k => w.heap.size ≤ k) (.slice A1 (i + 1) c1) (List.replicate (i + 1) (secS 0)) :=
          Kd.R_set (Kd.R_mono hR7 (fun k hk => by rcases hk with h | h; exact h; have := hb3.size; omega)) hd7 (by decide) 0 _
        have hd8 : Blk (w7.setCell ⟨d, 0, none⟩ (.slice A1 (i + 1) c1)) d 75 #[.slice A1 (i + 1) c1, .slice none 0 0, .bool false, .bool false, .int .i64 0, .int .i64 0] := hd7.set 0 _
        have hb8 : Below w.heap.size w (w7.setCell ⟨d, 0, none⟩ (.slice A1 (i + 1) c1)) := hb7.setCell (p := ⟨d, 0, none⟩) hdw _
        refine wpListIn_append_run _ rfl _ _ _ _ rfl _ _ rfl rfl hrun ?_
        clear hR7 hg7 hd7 hb7 hR3 hd3 hb3 bn hR2 hd2 hb2 s1 hne1
        gi_wp2
        refine ⟨rfl, f7, fun o ho => ?_⟩
        simp only [List.getElem?_toArray, List.getElem?_cons_succ, List.getElem?_cons_zero, Option.some.injEq] at ho
        subst ho
        gi_wp2
        refine ⟨rfl, f7, fun o ho => ?_⟩
        simp only [List.getElem?_toArray, List.getElem?_cons_succ, List.getElem?_cons_zero, Option.some.injEq] at ho
        subst ho
        gi_wp2
        refine ⟨rfl, f7, fun o ho => ?_⟩
        simp only [List.getElem?_toArray, List.getElem?_cons_succ, List.getElem?_cons_zero, Option.some.injEq] at ho
        subst ho
        gi_wp2
        refine ⟨rfl, ?_⟩
        simp only [ChainIn]
        clear f7 z7 hrun
        generalize w7.setCell ⟨d, 0, none⟩ (.slice A1 (i + 1) c1) = W8 at *
        gi_wp2
        go_roundw
        case rel => exact ⟨i + 1, _, by omega, by go_num, hd8, hR8, hb8⟩
        case measure => simp [intOf]; omega
    · obtain rfl : i = n := by omega
      have hdlt := hd.lt
      have hfin : ∃ d F, Ending.returned (Value.pointer (some ⟨d, 0, none⟩)) = .returned (.pointer (some ⟨d, 0, none⟩)) ∧ RefAt wr d F (DS.new i) ∧ (∀ k, F k → w.heap.size ≤ k) ∧ Below w.heap.size w wr := ⟨d, fun k => w.heap.size ≤ k ∧ k < wr.heap.size, rfl, ⟨vh, .slice none 0 0, false, 0, hd, ⟨Kd.R_mono (Kd.R_bound hR) (fun k hk => ⟨hk.1, hk.2.2.1⟩), Kd.R_nil _ _ _ _ _, rfl, (fun h => by cases h), ⟨hdw, hdlt⟩, fun k hk => hk.2⟩⟩, fun k hk => hk.1, hbW⟩
      have hfin2 := Lib.hid (show RefAt wr d (fun k => w.heap.size ≤ k ∧ k < wr.heap.size) (DS.new i) from ⟨vh, .slice none 0 0, false, 0, hd, ⟨Kd.R_mono (Kd.R_bound hR) (fun k hk => ⟨hk.1, hk.2.2.1⟩), Kd.R_nil _ _ _ _ _, rfl, (fun h => by cases h), ⟨hdw, hdlt⟩, fun k hk => hk.2⟩⟩)
      clear hfin hd hR
      gi_wp2
      exact ⟨rfl, _, results_tmp rfl _ _ _, d, _, rfl, hfin2.out, fun k hk => hk.1, hbW⟩
theorem refNew_calls (n : Nat) (w : World) (hn : 64 ≤ n ∧ n ≤ 1024) :
    Calls Try.prog 37 #[.int .i64 n] w fun e w' => ∃ d F, e = .returned (.pointer (some ⟨d, 0, none⟩)) ∧ RefAt w' d F (DS.new n) ∧ (∀ k, F k → w.heap.size ≤ k) ∧ Below w.heap.size w w' := (callsIn_wide (n := 9)).1 (refNew_in n w hn)
end Go.Proofs.Ytknibnbepmdapaa
