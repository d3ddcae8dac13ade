/-
The disk's statements: their sectors, and what they try first.
-/
import Derived.Test.YtknibnbepmdapaaDh
namespace Go.Proofs.Ytknibnbepmdapaa
open Go.RowKit Go.Shelf Go.Proofs.YtknibnbepmdapaaW.PrintWords Go.Proofs.Ytknibnbepmdapaa.PFate Go.ChangeMaps Go.Maps
attribute [local go_sem] Oper.semAt_some

def secB (c : Int) (j : Nat) : Int := (c + (j : Int) / 64) % 256
def secL (c : Int) : List Int := (List.range 256).map (secB c)
/-- A sector of a letter. -/
def sec5 (c : Int) : ByteArray := if 240 < c ∧ c % 2 = 1 then strOfNums ((secL c).take 255) else strOfNums (secL c)
def secPart (c : Int) (i : Nat) : List Int := (List.range i).map (secB c) ++ List.replicate (256 - i) 0

theorem secPart_set (c : Int) {i : Nat} (h : i < 256) : (secPart c i).set i (secB c i) = secPart c (i + 1) := by
  unfold secPart
  rw [List.set_append_right _ _ (by simp), List.length_map, List.length_range, Nat.sub_self, show 256 - i = (256 - (i + 1)) + 1 by omega, List.replicate_succ, List.set_cons_zero, List.range_succ, List.map_append, List.append_assoc]
  rfl
theorem secPart_length (c : Int) {i : Nat} (h : i ≤ 256) : (secPart c i).length = 256 := by
  unfold secPart
  rw [List.length_append, List.length_map, List.length_range, List.length_replicate]
  omega
theorem secL_length (c : Int) : (secL c).length = 256 := by unfold secL; rw [List.length_map, List.length_range]
theorem sec5_size (c : Int) (h : c ≤ 240) : (sec5 c).size = 256 := by
  unfold sec5
  rw [if_neg (by omega), strOfNums_size, secL_length]
theorem sec5_le (c : Int) : (sec5 c).size ≤ 256 := by
  unfold sec5
  split
  · rw [strOfNums_size, List.length_take]; omega
  · rw [strOfNums_size, secL_length]; omega

set_option maxRecDepth 100000 in
set_option maxHeartbeats 1000000 in
theorem sector5_in (c : Int) (hc : 0 ≤ c ∧ c < 256) (w : World) : CallsIn Fence.wide 9 Try.prog 29 #[.int .u8 c] w fun e w' => e = .returned (.string (sec5 c)) ∧ Below w.heap.size w w' := by
  have hF : ∀ f, Fence.wide.fn f := fun _ => trivial
  refine callsIn_of_wp Try.func29 rfl (hF _) ?_ rfl
  simp only [Try.ntmps29, List.size_toArray, List.length_cons, List.length_nil, Nat.reduceAdd, Nat.reduceSub, Array.replicate_succ, Array.replicate_zero, List.push_toArray, List.append_toArray, List.nil_append, List.cons_append]
  obtain ⟨hc0, hc1⟩ := hc
  have mk2 : ∀ w, (Instr.makeSlice 25 (.int .i64 256) (.int .i64 256)).run Try.prog w = .ok (.slice (some ⟨w.heap.size, 0, none⟩) 256 256) (w.alloc (.cells noughts 5)) := fun w => make_bytes 256 (by omega) w
  gi_wp2_with fail
  obtain ⟨g, hg⟩ : ∃ g, w.heap.size = g := ⟨_, rfl⟩
  obtain ⟨W1, hW1⟩ : ∃ W1, w.alloc (.cells noughts 5) = W1 := ⟨_, rfl⟩
  have b0 : Blk W1 g 5 (encV (Value.int .u8) (secPart c 0)) := by rw [← hW1, ← hg]; exact Blk.new w 5 _
  have hb1 : Below w.heap.size w W1 := by rw [← hW1]; exact below_alloc (Below.refl _ _) _
  have hgw : w.heap.size ≤ g := Nat.le_of_eq hg
  rw [hW1]
  try rw [hg]
  clear hW1 hg
  gi_loopw [4] (fun s wr => ∃ i : Nat, i ≤ 256 ∧ s = .int .i64 (i : Int) ∧ Blk wr g 5 (encV (Value.int .u8) (secPart c i)) ∧ Below w.heap.size w wr)
    (fun s _ => 256 - (intOf s).toNat)
  case atStart => exact ⟨0, Nat.zero_le _, rfl, b0, hb1⟩
  case round =>
    obtain ⟨i, hi, rfl, bG, hbW⟩ := hrel
    clear b0 hb1
    rcases Nat.lt_or_ge i 256 with hlt | hge
    · have hlt' : (i : Int) < 256 := by omega
      have hp : 0 ≤ (i : Int) := by omega
      have hq0 : 0 ≤ (i : Int) / 64 := by omega
      have hq1 : (i : Int) / 64 < 256 := by omega
      have f0 := bG.frozen i
      obtain ⟨z0, g0⟩ : ∃ x, wr.cell? ⟨g, i, none⟩ = some x := ⟨_, (bG.cell i).trans (Array.getElem?_eq_getElem (by rw [encV_size, secPart_length c hi]; exact hlt))⟩
      have hset : (encV (Value.int .u8) (secPart c i)).setIfInBounds i (.int .u8 (secB c i)) = encV (Value.int .u8) (secPart c (i + 1)) := by rw [encV_set, secPart_set c hlt]
      replace hset := Lib.hid hset
      gi_wp2
      go_roundw
      case rel => exact ⟨i + 1, by omega, by go_num, by rw [← hset.out]; exact bG.set i _, hbW.setCell (p := ⟨g, i, none⟩) hgw _⟩
      case measure => simp [intOf]; omega
    · obtain rfl : i = 256 := by omega
      have hC : Kd.C (Kd.int .u8) wr (some ⟨g, 0, none⟩) (secL c).length (secL c) := by
        have h1 : secPart c 256 = secL c := by unfold secPart secL; rw [Nat.sub_self, List.replicate_zero, List.append_nil]
        rw [h1] at bG
        exact Blk.reads (enc := Value.int .u8) (h1 := fun _ => rfl) bG (by rw [secL_length]; decide)
      have hl := secL_length c
      have s1 : (convert 25 9 (.slice (some ⟨g, 0, none⟩) 256 256)).run Try.prog wr = .ok (.string (strOfNums (secL c))) wr := by
        rw [hl] at hC
        exact Kd.C_string Try.underlying25 Try.underlying5 Try.underlying9 hC
      have s2 : (convert 25 9 (.slice (some ⟨g, 0, none⟩) 255 256)).run Try.prog wr = .ok (.string (strOfNums ((secL c).take 255))) wr := by
        have h2 := Kd.C_take hC (show 255 ≤ (secL c).length by omega)
        rw [show ((secL c).take 255).length = 255 by rw [List.length_take]; omega] at h2
        exact Kd.C_string Try.underlying25 Try.underlying5 Try.underlying9 h2
      clear bG hC
      replace hl := Lib.hid hl
      rcases (by omega : c ≤ 240 ∨ 240 < c) with h240 | h240
      · have e0 : Hid (sec5 c = strOfNums (secL c)) := Lib.hid (by unfold sec5; rw [if_neg (by omega)])
        have hn : ¬ 240 < c := by omega
        gi_wp2
        refine ⟨rfl, _, results_tmp rfl _ _ _, ?_, hbW⟩
        rw [e0.out]
        rfl
      · rcases (by omega : c % 2 = 1 ∨ c % 2 = 0) with h2 | h2
        · have e0 : Hid (sec5 c = strOfNums ((secL c).take 255)) := Lib.hid (by unfold sec5; rw [if_pos ⟨h240, h2⟩])
          gi_wp2
          refine ⟨rfl, _, results_tmp rfl _ _ _, ?_, hbW⟩
          rw [e0.out]
          rfl
        · have e0 : Hid (sec5 c = strOfNums (secL c)) := Lib.hid (by unfold sec5; rw [if_neg (by omega)])
          gi_wp2
          refine ⟨rfl, _, results_tmp rfl _ _ _, ?_, hbW⟩
          rw [e0.out]
          rfl
theorem sector5_calls (c : Int) (hc : 0 ≤ c ∧ c < 256) (w : World) : Calls Try.prog 29 #[.int .u8 c] w fun e w' => e = .returned (.string (sec5 c)) ∧ Below w.heap.size w w' := (callsIn_wide (n := 9)).1 (sector5_in c hc w)

/-! ### a disk of the call's own -/
def Own (w0 w : World) (d : Nat) (s : DS) : Prop := ∃ F, DiskAt w d F s ∧ (∀ k, F k → w0.heap.size ≤ k) ∧ Below w0.heap.size w0 w

theorem Own.post {w0 w w' : World} {d : Nat} {F : Nat → Prop} {s' : DS} (hF : ∀ k, F k → w0.heap.size ≤ k) (hb : Below w0.heap.size w0 w) (h : DiskPost w d F s' w') : Own w0 w' d s' := by
  obtain ⟨F', hD', hF', hk⟩ := h
  refine ⟨F', hD', fun k hk' => ?_, hb.trans (hk.below hb.size hF)⟩
  rcases hF' k hk' with h | h
  · exact hF k h
  · have := hb.size; omega
theorem Own.below {w0 w w' : World} {d : Nat} {s : DS} (h : Own w0 w d s) (hb : Below w.heap.size w w') : Own w0 w' d s := by
  obtain ⟨F, hD, hF, h0⟩ := h
  exact ⟨F, hD.below hb, hF, below_then h0 h0.size hb⟩
theorem Own.base {w0 w : World} {d : Nat} {s : DS} (h : Own w0 w d s) : Below w0.heap.size w0 w := by
  obtain ⟨_, _, _, h0⟩ := h
  exact h0

/-- The bounds of a disk's counts. -/
def DS.In (s : DS) : Prop := (-1 ≤ s.fuse ∧ s.fuse ≤ 1000000) ∧ (0 ≤ s.ops ∧ s.ops ≤ 1000000) ∧ s.pend.length ≤ 1000000 ∧ s.held.length ≤ 100000 ∧ All256 s.held ∧ PendOk s.held.length s.pend

section
variable {w0 w : World} {d : Nat} {s s' : DS}
theorem own_write (h : Own w0 w d s) (hs : s.In) {i : Int} {str : ByteArray} (hi : (Lit.int .i64 i).wf = true) (hstr : str.size ≤ 1000000) {e : Int} (hq : s.write i str = (e, s')) :
    Calls Try.prog 30 #[.pointer (some ⟨d, 0, none⟩), .int .i64 i, .string str] w fun x w' => x = .returned (.int .i64 e) ∧ Own w0 w' d s' := by
  obtain ⟨F, hD, hF, h0⟩ := h
  refine (write_calls d F s i str w hD hi hstr hs.1 hs.2.1 hs.2.2.1).mono ?_
  rintro x w' ⟨rfl, hp⟩
  rw [hq] at hp ⊢
  exact ⟨rfl, Own.post hF h0 hp⟩
theorem own_read (h : Own w0 w d s) (hs : s.In) {i : Int} (hi : (Lit.int .i64 i).wf = true) {e : Int} {str : ByteArray} (hq : s.read i = (str, e, s')) :
    Calls Try.prog 31 #[.pointer (some ⟨d, 0, none⟩), .int .i64 i] w fun x w' => x = .returned (.tuple #[.string str, .int .i64 e]) ∧ Own w0 w' d s' := by
  obtain ⟨F, hD, hF, h0⟩ := h
  refine (read_disk_calls d F s i w hD hi hs.1 hs.2.1).mono ?_
  rintro x w' ⟨rfl, hp⟩
  rw [hq] at hp ⊢
  exact ⟨rfl, Own.post hF h0 hp⟩
theorem own_barrier (h : Own w0 w d s) (hs : s.In) {e : Int} (hq : s.barrier = (e, s')) :
    Calls Try.prog 32 #[.pointer (some ⟨d, 0, none⟩)] w fun x w' => x = .returned (.int .i64 e) ∧ Own w0 w' d s' := by
  obtain ⟨F, hD, hF, h0⟩ := h
  refine (barrier_calls d F s w hD hs.2.2.2.2.2 hs.2.2.2.1 hs.1 hs.2.1).mono ?_
  rintro x w' ⟨rfl, hp⟩
  rw [hq] at hp ⊢
  exact ⟨rfl, Own.post hF h0 hp⟩
theorem own_arm (h : Own w0 w d s) (n : Int) (hq : { s with fuse := max (-1) n } = s') :
    Calls Try.prog 28 #[.pointer (some ⟨d, 0, none⟩), .int .i64 n] w fun x w' => x = .returned (.tuple #[]) ∧ Own w0 w' d s' := by
  obtain ⟨F, hD, hF, h0⟩ := h
  refine (arm_calls d F s w n hD).mono ?_
  rintro x w' ⟨rfl, hp⟩
  rw [hq] at hp
  exact ⟨rfl, Own.post hF h0 hp⟩
theorem own_boot (h : Own w0 w d s) (hs : s.In) {A : Option Addr} {c0 : Nat} {cs : List Int} (hcs : Kd.C (Kd.int .u8) w A cs.length cs) (hc0 : cs.length ≤ c0) (hby : Bytes cs) (hq : s.boot cs = s') :
    Calls Try.prog 33 #[.pointer (some ⟨d, 0, none⟩), .slice A cs.length c0] w fun x w' => x = .returned (.tuple #[]) ∧ Own w0 w' d s' := by
  obtain ⟨F, hD, hF, h0⟩ := h
  refine (boot_calls d F s A c0 cs w hD hcs hc0 hby hs.2.2.2.2.1 hs.2.2.2.1).mono ?_
  rintro x w' ⟨rfl, hp⟩
  rw [hq] at hp
  exact ⟨rfl, Own.post hF h0 hp⟩
theorem own_off (h : Own w0 w d s) : Calls Try.prog 34 #[.pointer (some ⟨d, 0, none⟩)] w fun e w' => e = .returned (.bool s.off) ∧ w' = w := by obtain ⟨F, hD, _, _⟩ := h; exact off_calls d F s w hD
theorem own_ops (h : Own w0 w d s) : Calls Try.prog 43 #[.pointer (some ⟨d, 0, none⟩)] w fun e w' => e = .returned (.int .i64 s.ops) ∧ w' = w := by obtain ⟨F, hD, _, _⟩ := h; exact ops_calls d F s w hD
theorem own_pending (h : Own w0 w d s) : Calls Try.prog 35 #[.pointer (some ⟨d, 0, none⟩)] w fun e w' => e = .returned (.int .i64 s.pend.length) ∧ w' = w := by obtain ⟨F, hD, _, _⟩ := h; exact pending_calls d F s w hD
theorem own_sectors (h : Own w0 w d s) : Calls Try.prog 44 #[.pointer (some ⟨d, 0, none⟩)] w fun e w' => e = .returned (.int .i64 s.held.length) ∧ w' = w := by obtain ⟨F, hD, _, _⟩ := h; exact sectors_calls d F s w hD
end

section
variable {held : List ByteArray} {pend : List S43} {fuse ops i : Int} {str : ByteArray}
theorem write_go (h1 : thereB i held.length = true) (h2 : str.size = 256) (hf : fuse ≠ 0) : (DS.mk held pend false fuse ops).write i str = (0, ⟨held, pend ++ [⟨i, str⟩], false, max (-1) (fuse - 1), ops + 1⟩) := by
  unfold DS.write DS.ask; dsimp only; rw [h1, h2]; simp [hf]
theorem write_not (h : (thereB i held.length && ((str.size : Int) == 256)) = false) : (DS.mk held pend false fuse ops).write i str = (2, ⟨held, pend, false, fuse, ops⟩) := by
  unfold DS.write DS.ask; dsimp only; rw [h]; simp
theorem write_off : (DS.mk held pend true fuse ops).write i str = (10, ⟨held, pend, true, fuse, ops⟩) := by
  unfold DS.write DS.ask; simp
theorem read_go (h1 : thereB i held.length = true) (hf : fuse ≠ 0) : (DS.mk held pend false fuse ops).read i = ((DS.mk held pend false fuse ops).at i, 0, ⟨held, pend, false, max (-1) (fuse - 1), ops + 1⟩) := by
  unfold DS.read DS.ask; dsimp only; rw [h1]; simp [hf]
theorem read_out (h1 : thereB i held.length = true) : (DS.mk held pend false 0 ops).read i = (⟨#[]⟩, 10, ⟨held, pend, true, -1, ops⟩) := by
  unfold DS.read DS.ask; dsimp only; rw [h1]; simp
theorem read_not (h1 : thereB i held.length = false) : (DS.mk held pend false fuse ops).read i = (⟨#[]⟩, 2, ⟨held, pend, false, fuse, ops⟩) := by
  unfold DS.read DS.ask; dsimp only; rw [h1]; simp
theorem barrier_go (hf : fuse ≠ 0) : (DS.mk held pend false fuse ops).barrier = (0, ⟨comeAll held pend, [], false, max (-1) (fuse - 1), ops + 1⟩) := by
  unfold DS.barrier DS.ask; simp [hf]
theorem barrier_out : (DS.mk held pend false 0 ops).barrier = (10, ⟨held, pend, true, -1, ops⟩) := by
  unfold DS.barrier DS.ask; simp
end

theorem blank_all (n : Nat) : All256 (List.replicate n (secS 0)) := fun s hs => by rw [List.eq_of_mem_replicate hs]; exact secS_size 0
theorem set_all {l : List ByteArray} (h : All256 l) (j : Nat) {s : ByteArray} (hs : s.size = 256) : All256 (l.set j s) := fun x hx => by
  rcases List.mem_or_eq_of_mem_set hx with h1 | rfl
  · exact h x h1
  · exact hs
theorem pend_nil (n : Nat) : PendOk n [] := fun x hx => by cases hx
theorem pend_one {n : Nat} {i : Int} {s : ByteArray} (h : 0 ≤ i ∧ i < n) (hs : s.size = 256) : PendOk n [⟨i, s⟩] := fun x hx => by
  rw [List.mem_singleton] at hx; subst hx; exact ⟨h, hs⟩

theorem ask_nil (v : Value) (w : World) : Calls Try.prog 53 #[.pointer none, v] w fun e w' => e = .returned (.int .i64 1) ∧ w' = w := by
  refine (callsIn_wide (n := 9)).1 ?_
  have hF : ∀ f, Fence.wide.fn f := fun _ => trivial
  refine callsIn_of_wp Try.func53 rfl (hF _) ?_ rfl
  simp only [Try.ntmps53, List.size_toArray, List.length_cons, List.length_nil, Nat.reduceAdd, Nat.reduceSub, Array.replicate_succ, Array.replicate_zero, List.push_toArray, List.append_toArray, List.nil_append, List.cons_append]
  gi_wp2
  exact ⟨rfl, _, results_tmp rfl _ _ _, rfl, rfl⟩
theorem barrier_nil (w : World) : Calls Try.prog 32 #[.pointer none] w fun e w' => e = .returned (.int .i64 1) ∧ w' = w := by
  refine (callsIn_wide (n := 9)).1 ?_
  have hF : ∀ f, Fence.wide.fn f := fun _ => trivial
  refine callsIn_of_wp Try.func32 rfl (hF _) ?_ rfl
  simp only [Try.ntmps32, List.size_toArray, List.length_cons, List.length_nil, Nat.reduceAdd, Nat.reduceSub, Array.replicate_succ, Array.replicate_zero, List.push_toArray, List.append_toArray, List.nil_append, List.cons_append]
  gi_wp2_with fail
  refine (callsIn_wide.2 (ask_nil _ w)).mono ?_
  rintro e w' ⟨rfl, rfl⟩
  gi_wp2
  exact ⟨rfl, _, results_tmp rfl _ _ _, rfl, rfl⟩
theorem read_nil (i : Int) (w : World) : Calls Try.prog 31 #[.pointer none, .int .i64 i] w fun e w' => e = .returned (.tuple #[.string ⟨#[]⟩, .int .i64 1]) ∧ Below w.heap.size w w' := by
  refine (callsIn_wide (n := 9)).1 ?_
  have hF : ∀ f, Fence.wide.fn f := fun _ => trivial
  refine callsIn_of_wp Try.func31 rfl (hF _) ?_ rfl
  simp only [Try.ntmps31, List.size_toArray, List.length_cons, List.length_nil, Nat.reduceAdd, Nat.reduceSub, Array.replicate_succ, Array.replicate_zero, List.push_toArray, List.append_toArray, List.nil_append, List.cons_append]
  gi_wp2_with fail
  refine (callsIn_wide.2 (there_calls none i _)).mono ?_
  rintro e w1 ⟨rfl, rfl⟩
  gi_wp2_with fail
  refine (callsIn_wide.2 (ask_nil _ _)).mono ?_
  rintro e w' ⟨rfl, rfl⟩
  gi_wp2
  exact ⟨rfl, _, results_tmp2 rfl _ _ _, rfl, below_alloc (below_alloc (below_alloc (Below.refl _ _) _) _) _⟩
theorem write_nil (i : Int) (s : ByteArray) (w : World) : Calls Try.prog 30 #[.pointer none, .int .i64 i, .string s] w fun e w' => e = .returned (.int .i64 1) ∧ Below w.heap.size w w' := by
  refine (callsIn_wide (n := 9)).1 ?_
  have hF : ∀ f, Fence.wide.fn f := fun _ => trivial
  refine callsIn_of_wp Try.func30 rfl (hF _) ?_ rfl
  simp only [Try.ntmps30, List.size_toArray, List.length_cons, List.length_nil, Nat.reduceAdd, Nat.reduceSub, Array.replicate_succ, Array.replicate_zero, List.push_toArray, List.append_toArray, List.nil_append, List.cons_append]
  gi_wp2_with fail
  refine (callsIn_wide.2 (there_calls none i _)).mono ?_
  rintro e w1 ⟨rfl, rfl⟩
  gi_wp2_with fail
  refine (callsIn_wide.2 (ask_nil _ _)).mono ?_
  rintro e w' ⟨rfl, rfl⟩
  gi_wp2
  exact ⟨rfl, _, results_tmp rfl _ _ _, rfl, below_alloc (below_alloc (below_alloc (below_alloc (Below.refl _ _) _) _) _) _⟩
end Go.Proofs.Ytknibnbepmdapaa

/-
The disk's statements: the chapter's examples.
-/
namespace Go.Proofs.Ytknibnbepmdapaa
open Go.RowKit Go.Shelf Go.Proofs.YtknibnbepmdapaaW.PrintWords Go.Proofs.Ytknibnbepmdapaa.PFate Go.ChangeMaps Go.Maps
attribute [local go_sem] Oper.semAt_some

theorem own_new (n : Nat) (w : World) (hn : 64 ≤ n ∧ n ≤ 1024) : Calls Try.prog 27 #[.int .i64 n] w fun e w' => ∃ d, e = .returned (.pointer (some ⟨d, 0, none⟩)) ∧ Own w w' d (DS.new n) := by
  refine (new_calls n w hn).mono ?_
  rintro e w' ⟨d, F, he, hD, hF, hb⟩
  exact ⟨d, he, F, hD, hF, hb⟩

theorem mkIn {held : List ByteArray} {pend : List S43} {off : Bool} {fuse ops : Int} (h1 : -1 ≤ fuse ∧ fuse ≤ 1000000) (h2 : 0 ≤ ops ∧ ops ≤ 1000000) (h3 : pend.length ≤ 1000000) (h4 : held.length ≤ 100000) (h5 : All256 held) (h6 : PendOk held.length pend) : (DS.mk held pend off fuse ops).In := ⟨h1, h2, h3, h4, h5, h6⟩

set_option maxRecDepth 100000 in
set_option maxHeartbeats 2000000 in
theorem works5_in (w : World) : CallsIn Fence.wide 9 Try.prog 26 #[] w fun e w' => e = .returned (.bool true) ∧ Below w.heap.size w w' := by
  have hF : ∀ f, Fence.wide.fn f := fun _ => trivial
  refine callsIn_of_wp Try.func26 rfl (hF _) ?_ rfl
  simp only [Try.ntmps26, List.size_toArray, List.length_nil, Nat.reduceSub, Array.replicate_succ, Array.replicate_zero, List.push_toArray, List.append_toArray, List.nil_append, List.cons_append]
  gi_wp2_with fail
  refine (callsIn_wide.2 (own_new 64 w (by decide))).mono ?_
  rintro e w0 ⟨d, rfl, hO⟩
  have hl : (List.replicate 64 (secS 0)).length = 64 := List.length_replicate
  have ha := blank_all 64
  unfold DS.new at hO
  generalize List.replicate 64 (secS 0) = H at *
  have hsa := sec5_size 97 (by decide)
  have hsb := sec5_size 98 (by decide)
  have t3 : ∀ K : List ByteArray, K.length = 64 → thereB 3 K.length = true := fun K hK => by rw [hK]; rfl
  have wf3 : (Lit.int .i64 3).wf = true := by decide
  have wf64 : (Lit.int .i64 64).wf = true := by decide
  have wf0 : (Lit.int .i64 0).wf = true := by decide
  gi_wp2_with fail
  refine (callsIn_wide.2 (sector5_calls 97 (by decide) _)).mono ?_
  rintro e w1 ⟨rfl, hN⟩
  replace hO := hO.below hN
  clear hN
  gi_wp2_with fail
  refine (callsIn_wide.2 (sector5_calls 98 (by decide) _)).mono ?_
  rintro e w2 ⟨rfl, hN⟩
  replace hO := hO.below hN
  clear hN
  generalize sec5 97 = a at *
  generalize sec5 98 = b at *
  have hl1 : (H.set 3 a).length = 64 := by rw [List.length_set]; exact hl
  have ha1 : All256 (H.set 3 a) := set_all ha 3 hsa
  have p1 : PendOk H.length [⟨3, a⟩] := pend_one (by rw [hl]; decide) hsa
  have p2 : PendOk (H.set 3 a).length [⟨3, b⟩] := pend_one (by rw [hl1]; decide) hsb
  have in0 : ∀ k : Int, 0 ≤ k ∧ k ≤ 1000000 → (DS.mk H [] false (-1) k).In := fun k hk => mkIn (by decide) hk (by decide) (by omega) ha (pend_nil _)
  have in1 : ∀ k : Int, 0 ≤ k ∧ k ≤ 1000000 → (DS.mk H [⟨3, a⟩] false (-1) k).In := fun k hk => mkIn (by decide) hk (by show 1 ≤ 1000000; omega) (by omega) ha p1
  have in2 : ∀ (o : Bool) (f k : Int), -1 ≤ f ∧ f ≤ 1000000 → 0 ≤ k ∧ k ≤ 1000000 → (DS.mk (H.set 3 a) [] o f k).In := fun o f k hf hk => mkIn hf hk (by decide) (by omega) ha1 (pend_nil _)
  have in3 : ∀ (o : Bool) (f k : Int), -1 ≤ f ∧ f ≤ 1000000 → 0 ≤ k ∧ k ≤ 1000000 → (DS.mk (H.set 3 a) [⟨3, b⟩] o f k).In := fun o f k hf hk => mkIn hf hk (by show 1 ≤ 1000000; omega) (by omega) ha1 p2
  have q1 : (DS.mk H [] false (-1) 0).write 3 a = (0, ⟨H, [⟨3, a⟩], false, -1, 1⟩) := write_go (t3 H hl) hsa (by decide)
  have q2 : (DS.mk H [⟨3, a⟩] false (-1) 1).read 3 = (a, 0, ⟨H, [⟨3, a⟩], false, -1, 2⟩) := read_go (t3 H hl) (by decide)
  have q3 : (DS.mk H [⟨3, a⟩] false (-1) 2).barrier = (0, ⟨H.set 3 a, [], false, -1, 3⟩) := barrier_go (by decide)
  have q4 : (DS.mk (H.set 3 a) [] false 1 3).write 3 b = (0, ⟨H.set 3 a, [⟨3, b⟩], false, 0, 4⟩) := write_go (t3 _ hl1) hsb (by decide)
  have q5 : (DS.mk (H.set 3 a) [⟨3, b⟩] false 0 4).read 3 = (⟨#[]⟩, 10, ⟨H.set 3 a, [⟨3, b⟩], true, -1, 4⟩) := read_out (t3 _ hl1)
  have q6 : (DS.mk (H.set 3 a) [⟨3, b⟩] true (-1) 4).boot [] = ⟨H.set 3 a, [], false, -1, 4⟩ := by
    unfold DS.boot
    dsimp only [List.length_cons, List.length_nil]
    rw [show fateRead [] ((0 + 1 : Nat) : Int) = ([false], -1, 0) by kernel_rfl]
    rfl
  have hat : (DS.mk (H.set 3 a) [] false (-1) 4).at 3 = a := by
    show rdOf ByteArray.empty (H.set 3 a) 3 = a
    unfold rdOf
    rw [List.getD_eq_getElem?_getD, show (3 : Int).toNat = 3 from rfl, List.getElem?_set_self (by omega)]
    rfl
  have q7 : (DS.mk (H.set 3 a) [] false (-1) 4).read 3 = (a, 0, ⟨H.set 3 a, [], false, -1, 5⟩) := by rw [read_go (t3 _ hl1) (by decide), hat]; rfl
  have q8 : (DS.mk (H.set 3 a) [] false (-1) 5).write 64 a = (2, ⟨H.set 3 a, [], false, -1, 5⟩) := write_not (by rw [hl1]; rfl)
  have q9 : (DS.mk (H.set 3 a) [] false (-1) 5).write 0 ⟨#[120]⟩ = (2, ⟨H.set 3 a, [], false, -1, 5⟩) := write_not (by rw [hl1]; rfl)
  generalize H.set 3 a = K at *
  replace hl := Lib.hid hl
  replace hl1 := Lib.hid hl1
  replace hsa := Lib.hid hsa
  replace hsb := Lib.hid hsb
  replace hat := Lib.hid hat
  have hQ := Lib.hid (And.intro q1 (And.intro q2 (And.intro q3 (And.intro q4 (And.intro q5 (And.intro q6 (And.intro q7 (And.intro q8 q9))))))))
  clear q1 q2 q3 q4 q5 q6 q7 q8 q9
  clear t3
  gi_wp2_with fail
  refine (callsIn_wide.2 (own_write hO (in0 0 (by decide)) wf3 (by rw [hsa.out]; decide) hQ.out.1)).mono ?_
  rintro e w3 ⟨rfl, hN⟩
  clear hO
  have hO := hN
  clear hN
  gi_wp2_with fail
  refine (callsIn_wide.2 (own_pending hO)).mono ?_
  rintro e W' ⟨rfl, rfl⟩
  gi_wp2_with fail
  refine (callsIn_wide.2 (own_read hO (in1 1 (by decide)) wf3 hQ.out.2.1)).mono ?_
  rintro e w5 ⟨rfl, hN⟩
  clear hO
  have hO := hN
  clear hN
  gi_wp2_with fail
  refine (callsIn_wide.2 (own_barrier hO (in1 2 (by decide)) hQ.out.2.2.1)).mono ?_
  rintro e w6 ⟨rfl, hN⟩
  clear hO
  have hO := hN
  clear hN
  gi_wp2_with fail
  refine (callsIn_wide.2 (own_pending hO)).mono ?_
  rintro e W' ⟨rfl, rfl⟩
  gi_wp2_with fail
  refine (callsIn_wide.2 (own_ops hO)).mono ?_
  rintro e W' ⟨rfl, rfl⟩
  gi_wp2_with fail
  refine (callsIn_wide.2 (own_arm hO 1 (s' := ⟨K, [], false, 1, 3⟩) rfl)).mono ?_
  rintro e w9 ⟨rfl, hN⟩
  clear hO
  have hO := hN
  clear hN
  gi_wp2_with fail
  refine (callsIn_wide.2 (own_write hO (in2 false 1 3 (by decide) (by decide)) wf3 (by rw [hsb.out]; decide) hQ.out.2.2.2.1)).mono ?_
  rintro e w10 ⟨rfl, hN⟩
  clear hO
  have hO := hN
  clear hN
  gi_wp2_with fail
  refine (callsIn_wide.2 (own_read hO (in3 false 0 4 (by decide) (by decide)) wf3 hQ.out.2.2.2.2.1)).mono ?_
  rintro e w11 ⟨rfl, hN⟩
  clear hO
  have hO := hN
  clear hN
  gi_wp2_with fail
  refine (callsIn_wide.2 (own_off hO)).mono ?_
  rintro e W' ⟨rfl, rfl⟩
  gi_wp2_with fail
  refine (callsIn_wide.2 (own_boot hO (in3 true (-1) 4 (by decide) (by decide)) (Kd.C_nil _ _) (Nat.le_refl _) (fun x hx => by cases hx) hQ.out.2.2.2.2.2.1)).mono ?_
  rintro e w13 ⟨rfl, hN⟩
  clear hO
  have hO := hN
  clear hN
  gi_wp2_with fail
  refine (callsIn_wide.2 (own_read hO (in2 false (-1) 4 (by decide) (by decide)) wf3 hQ.out.2.2.2.2.2.2.1)).mono ?_
  rintro e w14 ⟨rfl, hN⟩
  clear hO
  have hO := hN
  clear hN
  gi_wp2_with fail
  refine (callsIn_wide.2 (own_write hO (in2 false (-1) 5 (by decide) (by decide)) wf64 (by rw [hsa.out]; decide) hQ.out.2.2.2.2.2.2.2.1)).mono ?_
  rintro e w15 ⟨rfl, hN⟩
  clear hO
  have hO := hN
  clear hN
  gi_wp2_with fail
  refine (callsIn_wide.2 (own_write hO (in2 false (-1) 5 (by decide) (by decide)) wf0 (by decide) hQ.out.2.2.2.2.2.2.2.2)).mono ?_
  rintro e w16 ⟨rfl, hN⟩
  clear hO
  have hO := hN
  clear hN
  have hb := hO.base
  clear hO
  gi_wp2
  exact ⟨rfl, _, results_tmp rfl _ _ _, rfl, hb⟩
theorem works5_calls (w : World) : Calls Try.prog 26 #[] w fun e w' => e = .returned (.bool true) ∧ Below w.heap.size w w' := (callsIn_wide (n := 9)).1 (works5_in w)
end Go.Proofs.Ytknibnbepmdapaa
