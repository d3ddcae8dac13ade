/-
The document's disk: what it is in memory; its questions, Read and Arm.
-/
import Derived.Test.YtknibnbepmdapaaDh
import Derived.Test.YtknibnbepmdapaaMb
namespace Go.Proofs.Ytknibnbepmdapaa
open Go.RowKit Go.Shelf Go.Proofs.YtknibnbepmdapaaW.PrintWords Go.Proofs.Ytknibnbepmdapaa.PFate Go.ChangeMaps Go.Maps
attribute [local go_sem] Oper.semAt_some

/-- All of the document's disk but its own block. -/
structure RefRest (w : World) (d : Nat) (F : Nat → Prop) (vh vp : Value) (armed : Bool) (fz : Int) (s : DS) : Prop where
  rh : Kd.R Kd.string 9 w 0 F vh s.held
  rp : Kd.R k43 43 w 0 F vp s.pend
  fu : s.fuse = if armed = true then fz else -1
  fa : armed = true → 0 ≤ fz
  fd : F d
  lt : ∀ k, F k → k < w.heap.size

def RefAt (w : World) (d : Nat) (F : Nat → Prop) (s : DS) : Prop :=
  ∃ (vh vp : Value) (armed : Bool) (fz : Int), Blk w d 75 #[vh, vp, .bool s.off, .bool armed, .int .i64 fz, .int .i64 s.ops] ∧ RefRest w d F vh vp armed fz s
def RefPost (w : World) (d : Nat) (F : Nat → Prop) (s : DS) (w' : World) : Prop := ∃ F', RefAt w' d F' s ∧ (∀ k, F' k → F k ∨ w.heap.size ≤ k) ∧ Keeps w w' F

theorem RefAt.lt {w : World} {d : Nat} {F : Nat → Prop} {s : DS} (h : RefAt w d F s) : ∀ k, F k → k < w.heap.size := by
  obtain ⟨_, _, _, _, _, hr⟩ := h
  exact hr.lt
theorem RefAt.stay {w w' : World} {d : Nat} {F : Nat → Prop} {s : DS} (h : RefAt w d F s) (hs : w.heap.size ≤ w'.heap.size) (hb : ∀ k, F k → w'.heap[k]? = w.heap[k]?) : RefAt w' d F s := by
  obtain ⟨vh, vp, armed, fz, hd, hr⟩ := h
  exact ⟨vh, vp, armed, fz, (hb d hr.fd).trans hd, Kd.R_step hr.rh (fun k hk _ => hb k hk), Kd.R_step hr.rp (fun k hk _ => hb k hk), hr.fu, hr.fa, hr.fd, fun k hk => by have := hr.lt k hk; omega⟩
theorem RefAt.below {w w' : World} {d : Nat} {F : Nat → Prop} {s : DS} (h : RefAt w d F s) (hb : Below w.heap.size w w') : RefAt w' d F s := h.stay hb.size fun k hk => hb.block k (h.lt k hk)

def GoesPost (w : World) (d : Nat) (F : Nat → Prop) (s : DS) (e : Ending) (w' : World) : Prop := (s.fuse = 0 ∧ e = .returned (.bool false) ∧ RefPost w d F { s with off := true, fuse := -1 } w') ∨ (s.fuse ≠ 0 ∧ e = .returned (.bool true) ∧ RefPost w d F { s with fuse := max (-1) (s.fuse - 1), ops := s.ops + 1 } w')

section
variable {w : World} {d : Nat} {F : Nat → Prop} {s : DS}
theorem R_setd {α : Type} {k : Kd α} {e : Nat} {v : Value} {xs : List α} (h : Kd.R k e w 0 F v xs) {cs : Array Value} (hd : Blk w d 75 cs) (hne : ∀ q, q ∈ e :: k.E → q ≠ 75) (j : Nat) (u : Value) : Kd.R k e (w.setCell ⟨d, j, none⟩ u) 0 F v xs := Kd.R_set h hd hne j u

theorem goes_in (hR : RefAt w d F s) (hf : s.fuse ≤ 1000000) (ho : 0 ≤ s.ops ∧ s.ops ≤ 1000000) :
    CallsIn Fence.wide 9 Try.prog 57 #[.pointer (some ⟨d, 0, none⟩)] w (GoesPost w d F s) := by
  have hF : ∀ f, Fence.wide.fn f := fun _ => trivial
  refine callsIn_of_wp Try.func57 rfl (hF _) ?_ rfl
  simp only [Try.ntmps57, List.size_toArray, List.length_cons, List.length_nil, Nat.reduceAdd, Nat.reduceSub, Array.replicate_succ, Array.replicate_zero, List.push_toArray, List.append_toArray, List.nil_append, List.cons_append]
  obtain ⟨vh, vp, armed, fz, hd, hr⟩ := hR
  obtain ⟨held, pend, off, fuse, ops⟩ := s
  have hfu := hr.fu
  have hfa := hr.fa
  have fd := hr.fd
  dsimp only at hd hfu hfa hf ho ⊢
  obtain ⟨ho1, ho2⟩ := ho
  have g3 : w.cell? ⟨d, 3, none⟩ = some (.bool armed) := hd.cell 3
  have g4 : w.cell? ⟨d, 4, none⟩ = some (.int .i64 fz) := hd.cell 4
  have g2 : w.cell? ⟨d, 2, none⟩ = some (.bool off) := hd.cell 2
  have g5 : w.cell? ⟨d, 5, none⟩ = some (.int .i64 ops) := hd.cell 5
  have z2 := hd.frozen 2
  have z3 := hd.frozen 3
  have z4 := hd.frozen 4
  have z5 := hd.frozen 5
  cases armed with
  | false =>
    replace hfu : fuse = -1 := hfu
    subst hfu
    gi_wp2
    refine ⟨rfl, _, results_tmp rfl _ _ _, Or.inr ⟨(by show (-1 : Int) ≠ 0; decide), rfl, F, ⟨vh, vp, false, fz, hd.set 5 _, ?_⟩, fun k hk => .inl hk, (Keeps.refl w F).set fd 5 _⟩⟩
    exact ⟨R_setd hr.rh hd (by decide) 5 _, R_setd hr.rp hd (by decide) 5 _, rfl, fun h => (by cases h), fd, fun k hk => by have := hr.lt k hk; simpa using this⟩
  | true =>
    replace hfu : fuse = fz := hfu
    subst hfu
    replace hfa := hfa rfl
    by_cases h0 : fuse = 0
    · subst h0
      gi_wp2
      refine ⟨rfl, _, results_tmp rfl _ _ _, Or.inl ⟨rfl, rfl, F, ⟨vh, vp, false, 0, (hd.set 2 _).set 3 _, ?_⟩, fun k hk => .inl hk, ((Keeps.refl w F).set fd 2 _).set fd 3 _⟩⟩
      exact ⟨R_setd (R_setd hr.rh hd (by decide) 2 _) (hd.set 2 _) (by decide) 3 _, R_setd (R_setd hr.rp hd (by decide) 2 _) (hd.set 2 _) (by decide) 3 _, rfl, fun h => (by cases h), fd, fun k hk => by have := hr.lt k hk; simpa using this⟩
    · have hb0 : (fuse == 0) = false := by rw [beq_eq_false_iff_ne]; exact h0
      have h1 : 1 ≤ fuse := by omega
      have hm : Hid (max (-1) (fuse - 1) = fuse - 1) := Lib.hid (by omega)
      gi_wp2
      refine ⟨rfl, _, results_tmp rfl _ _ _, Or.inr ⟨h0, rfl, F, ⟨vh, vp, true, fuse - 1, (hd.set 4 _).set 5 _, ?_⟩, fun k hk => .inl hk, ((Keeps.refl w F).set fd 4 _).set fd 5 _⟩⟩
      exact ⟨R_setd (R_setd hr.rh hd (by decide) 4 _) (hd.set 4 _) (by decide) 5 _, R_setd (R_setd hr.rp hd (by decide) 4 _) (hd.set 4 _) (by decide) 5 _, hm.out, fun _ => by omega, fd, fun k hk => by have := hr.lt k hk; simpa using this⟩
theorem goes_calls (hR : RefAt w d F s) (hf : s.fuse ≤ 1000000) (ho : 0 ≤ s.ops ∧ s.ops ≤ 1000000) :
    Calls Try.prog 57 #[.pointer (some ⟨d, 0, none⟩)] w (GoesPost w d F s) := (callsIn_wide (n := 9)).1 (goes_in hR hf ho)

theorem refArm_in (hR : RefAt w d F s) (n : Int) :
    CallsIn Fence.wide 9 Try.prog 41 #[.pointer (some ⟨d, 0, none⟩), .int .i64 n] w fun e w' => e = .returned (.tuple #[]) ∧ RefPost w d F { s with fuse := max (-1) n } w' := by
  have hF : ∀ f, Fence.wide.fn f := fun _ => trivial
  refine callsIn_of_wp Try.func41 rfl (hF _) ?_ rfl
  simp only [Try.ntmps41, List.size_toArray, List.length_cons, List.length_nil, Nat.reduceAdd, Nat.reduceSub, Array.replicate_succ, Array.replicate_zero, List.push_toArray, List.append_toArray, List.nil_append, List.cons_append]
  obtain ⟨vh, vp, armed, fz, hd, hr⟩ := hR
  have fd := hr.fd
  have g3 : w.cell? ⟨d, 3, none⟩ = some (.bool armed) := hd.cell 3
  have g4 : w.cell? ⟨d, 4, none⟩ = some (.int .i64 fz) := hd.cell 4
  have z3 := hd.frozen 3
  have z4 := hd.frozen 4
  obtain ⟨b, hb⟩ : ∃ b, decide (0 ≤ n) = b := ⟨_, rfl⟩
  have hfu : Hid (max (-1) n = if b = true then n else -1) := Lib.hid (by
    rw [← hb]
    by_cases h : 0 ≤ n
    · rw [if_pos (by simpa using h)]; omega
    · rw [if_neg (by simpa using h)]; omega)
  have hfa : Hid (b = true → 0 ≤ n) := Lib.hid (fun h => by rw [← hb] at h; simpa using h)
  gi_wp2
  refine ⟨rfl, _, results_no rfl _ _ _, rfl, F, ⟨vh, vp, b, n, (hd.set 3 _).set 4 _, ?_⟩, fun k hk => .inl hk, ((Keeps.refl w F).set fd 3 _).set fd 4 _⟩
  exact ⟨R_setd (R_setd hr.rh hd (by decide) 3 _) (hd.set 3 _) (by decide) 4 _, R_setd (R_setd hr.rp hd (by decide) 3 _) (hd.set 3 _) (by decide) 4 _, hfu.out, hfa.out, fd, fun k hk => by have := hr.lt k hk; simpa using this⟩
theorem refArm_calls (hR : RefAt w d F s) (n : Int) :
    Calls Try.prog 41 #[.pointer (some ⟨d, 0, none⟩), .int .i64 n] w fun e w' => e = .returned (.tuple #[]) ∧ RefPost w d F { s with fuse := max (-1) n } w' := (callsIn_wide (n := 9)).1 (refArm_in hR n)
end
end Go.Proofs.Ytknibnbepmdapaa
