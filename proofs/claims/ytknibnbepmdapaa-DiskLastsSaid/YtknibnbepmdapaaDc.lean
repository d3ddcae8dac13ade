/-
The disk: what it is in memory, and the functions that only ask it.
-/
import Derived.Test.YtknibnbepmdapaaReg4
import Derived.Test.YtknibnbepmdapaaRange
import Derived.Test.YtknibnbepmdapaaPFatex0
import Derived.WalkKit
import Derived.OwnWalkIn
import Derived.TacticsInMore
import Derived.LoopNIn
import Derived.LoopIn
import Derived.Lib.Hide
import Derived.WalkLawsBesides
import Derived.WalkSpells
import Derived.Deep.Upon
import Derived.Maps.OwnIn
import Derived.Maps.StringElems
namespace Go.Proofs.Ytknibnbepmdapaa
open Go.RowKit Go.Proofs.YtknibnbepmdapaaW.PrintWords Go.Proofs.Ytknibnbepmdapaa.PFate
attribute [local go_sem] Oper.semAt_some

theorem there_calls_in (p : Option Addr) (i : Int) (w : World) :
    CallsIn Fence.wide 9 Try.prog 54 #[.pointer p, .int .i64 i] w fun e w' =>
      e = .returned (.func (.func 59) #[] #[.pointer (some ⟨w.heap.size + 1, 0, none⟩), .pointer (some ⟨w.heap.size, 0, none⟩)]) ∧
      w' = (w.alloc (.cells #[.pointer p] 52)).alloc (.cells #[.int .i64 i] 3) := by
  have hF : ∀ f, Fence.wide.fn f := fun _ => trivial
  refine callsIn_of_wp Try.func54 rfl (hF _) ?_ rfl
  simp only [Try.ntmps54, List.size_toArray, List.length_cons, List.length_nil, Nat.reduceAdd, Nat.reduceSub, Array.replicate_succ, Array.replicate_zero, List.push_toArray, List.append_toArray, List.nil_append, List.cons_append]
  gi_wp2
  exact ⟨rfl, _, results_tmp rfl _ _ _, rfl, rfl⟩

theorem size_calls_in (g : Nat) (s : ByteArray) (w : World) (h : Blk w g 9 #[.string s]) :
    CallsIn Fence.wide 9 Try.prog 55 #[.pointer (some ⟨g, 0, none⟩)] w fun e w' => e = .returned (.bool ((s.size : Int) == 256)) ∧ w' = w := by
  have hF : ∀ f, Fence.wide.fn f := fun _ => trivial
  refine callsIn_of_wp Try.func55 rfl (hF _) ?_ rfl
  simp only [Try.ntmps55, List.size_toArray, List.length_cons, List.length_nil, Nat.reduceAdd, Nat.reduceSub, Array.replicate_succ, Array.replicate_zero, List.push_toArray, List.append_toArray, List.nil_append, List.cons_append]
  have h0 : w.cell? ⟨g, 0, none⟩ = some (.string s) := h.cell 0
  gi_wp2
  exact ⟨rfl, _, results_tmp rfl _ _ _, rfl, rfl⟩

theorem there_calls (p : Option Addr) (i : Int) (w : World) : Calls Try.prog 54 #[.pointer p, .int .i64 i] w fun e w' =>
      e = .returned (.func (.func 59) #[] #[.pointer (some ⟨w.heap.size + 1, 0, none⟩), .pointer (some ⟨w.heap.size, 0, none⟩)]) ∧
      w' = (w.alloc (.cells #[.pointer p] 52)).alloc (.cells #[.int .i64 i] 3) := (callsIn_wide (n := 9)).1 (there_calls_in p i w)
theorem size_calls (g : Nat) (s : ByteArray) (w : World) (h : Blk w g 9 #[.string s]) : Calls Try.prog 55 #[.pointer (some ⟨g, 0, none⟩)] w fun e w' => e = .returned (.bool ((s.size : Int) == 256)) ∧ w' = w := (callsIn_wide (n := 9)).1 (size_calls_in g s w h)

def thereB (i : Int) (n : Nat) : Bool := decide (0 ≤ i) && decide (i < n)

theorem askThere_calls_in (g1 g2 d : Nat) (i : Int) (A : Option Addr) (n c : Nat) (v1 v2 v3 v4 v5 : Value) (w : World) (h1 : Blk w g1 3 #[.int .i64 i]) (h2 : Blk w g2 52 #[.pointer (some ⟨d, 0, none⟩)])
    (hd : Blk w d 91 #[.slice A n c, v1, v2, v3, v4, v5]) :
    CallsIn Fence.wide 9 Try.prog 59 #[.pointer (some ⟨g1, 0, none⟩), .pointer (some ⟨g2, 0, none⟩)] w fun e w' => e = .returned (.bool (thereB i n)) ∧ Below w.heap.size w w' := by
  have hF : ∀ f, Fence.wide.fn f := fun _ => trivial
  refine callsIn_of_wp Try.func59 rfl (hF _) ?_ rfl
  simp only [Try.ntmps59, List.size_toArray, List.length_cons, List.length_nil, Nat.reduceAdd, Nat.reduceSub, Array.replicate_succ, Array.replicate_zero, List.push_toArray, List.append_toArray, List.nil_append, List.cons_append]
  rcases (by omega : i < 0 ∨ 0 ≤ i) with hi | hi
  · have hb : thereB i n = false := by unfold thereB; rw [decide_eq_false (by omega), Bool.false_and]
    rw [hb]
    have hneg : decide (0 ≤ i) = false := decide_eq_false (by omega)
    gi_wp2_with fail
    refine wpIn_region_phases 12 [.int .i64 i, .bool false, .bool false, undef, undef, undef, undef, undef, undef, undef, .bool false, .bool false] (fun W' => Below w.heap.size w W') (by kernel_rfl) (by kernel_rfl) rfl (Below.refl _ _).drew ?st1 ?ta1
    case st1 =>
      intro W' hb
      have f0 : W'.cell? ⟨g1, 0, none⟩ = some (.int .i64 i) := (h1.below hb).cell 0
      simp only [List.take_succ_cons, List.take_zero, AllIn, fillT, List.setIfInBounds_toArray, List.set_cons_zero, List.set_cons_succ]
      replace hb := Lib.hid hb
      refine ⟨?_, ?_, ?_, ?_, ?_, ?_, ?_, ?_, ?_, ?_, ?_, ?_, trivial⟩
      all_goals
        gi_wp2
        exact ⟨rfl, hb.out⟩
    case ta1 =>
      intro W' hb
      simp only [List.take_succ_cons, List.take_zero, List.drop_succ_cons, List.drop_nil, fillT, List.setIfInBounds_toArray, List.set_cons_zero, List.set_cons_succ]
      replace hb := Lib.hid hb
      gi_wp2
      exact ⟨rfl, _, results_tmp rfl _ _ _, rfl, hb.out⟩
  · have hb : thereB i n = decide (i < n) := by unfold thereB; rw [decide_eq_true (by omega), Bool.true_and]
    rw [hb]
    gi_wp2_with fail
    refine wpIn_region_phases 12 [.int .i64 i, .bool true, .bool true, .int .i64 i, .pointer (some ⟨d, 0, none⟩), .pointer (some ⟨d, 0, none⟩), .pointer (some ⟨d, 0, none⟩), .slice A n c, .int .i64 n, .bool (decide (i < n)), .bool (decide (i < n)), .bool (decide (i < n))] (fun W' => Below w.heap.size w W') (by kernel_rfl) (by kernel_rfl) rfl (Below.refl _ _).drew ?st2 ?ta2
    case st2 =>
      intro W' hb
      have f0 : W'.cell? ⟨g1, 0, none⟩ = some (.int .i64 i) := (h1.below hb).cell 0
      have f1 : W'.cell? ⟨g2, 0, none⟩ = some (.pointer (some ⟨d, 0, none⟩)) := (h2.below hb).cell 0
      have f2 : W'.cell? ⟨d, 0, none⟩ = some (.slice A n c) := (hd.below hb).cell 0
      simp only [List.take_succ_cons, List.take_zero, AllIn, fillT, List.setIfInBounds_toArray, List.set_cons_zero, List.set_cons_succ]
      replace hb := Lib.hid hb
      refine ⟨?_, ?_, ?_, ?_, ?_, ?_, ?_, ?_, ?_, ?_, ?_, ?_, trivial⟩
      all_goals
        gi_wp2
        exact ⟨rfl, hb.out⟩
    case ta2 =>
      intro W' hb
      simp only [List.take_succ_cons, List.take_zero, List.drop_succ_cons, List.drop_nil, fillT, List.setIfInBounds_toArray, List.set_cons_zero, List.set_cons_succ]
      replace hb := Lib.hid hb
      gi_wp2
      exact ⟨rfl, _, results_tmp rfl _ _ _, rfl, hb.out⟩

theorem askThere_calls (g1 g2 d : Nat) (i : Int) (A : Option Addr) (n c : Nat) (v1 v2 v3 v4 v5 : Value) (w : World) (h1 : Blk w g1 3 #[.int .i64 i]) (h2 : Blk w g2 52 #[.pointer (some ⟨d, 0, none⟩)])
    (hd : Blk w d 91 #[.slice A n c, v1, v2, v3, v4, v5]) :
    Calls Try.prog 59 #[.pointer (some ⟨g1, 0, none⟩), .pointer (some ⟨g2, 0, none⟩)] w fun e w' => e = .returned (.bool (thereB i n)) ∧ Below w.heap.size w w' := (callsIn_wide (n := 9)).1 (askThere_calls_in g1 g2 d i A n c v1 v2 v3 v4 v5 w h1 h2 hd)

/-! ### what a disk is -/

/-- A disk, by what it answers. -/
structure DS where
  held : List ByteArray
  pend : List S43
  off : Bool
  fuse : Int
  ops : Int

/-- What is pending for a sector. -/
def lastOf (pend : List S43) (i : Int) : Option ByteArray := pend.foldl (fun r x => if x.f0 = i then some x.f1 else r) none

theorem lastOf_snoc (pend : List S43) (x : S43) (i : Int) : lastOf (pend ++ [x]) i = if x.f0 = i then some x.f1 else lastOf pend i := by simp [lastOf]

def SeenOk (D : DataW Unit) (pend : List S43) : Prop :=
  ∀ i : Int, (Lit.int .i64 i).wf = true → Maps.has D (.int .i64 i) = (lastOf pend i).isSome ∧ ∀ s, lastOf pend i = some s → ∀ z, D.atKey (.int .i64 i) z = .lit (.string s.data.toList)

abbrev SeenM (w : World) (b n : Nat) (D : DataW Unit) : Prop := w.ownsMap (H := Unit) Try.prog 3 (plainElem Try.prog 9) b n D

/-- All of a disk but its own block. -/
structure DiskRest (w : World) (d : Nat) (F : Nat → Prop) (vh vp : Value) (bm n : Nat) (D : DataW Unit) (held : List ByteArray) (pend : List S43) : Prop where
  rh : Kd.R Kd.string 9 w 0 F vh held
  rp : Kd.R k43 43 w 0 F vp pend
  rm : SeenM w bm n D
  rs : SeenOk D pend
  rn : n ≤ pend.length
  fd : F d
  fb : F bm
  lt : ∀ k, F k → k < w.heap.size

/-- The disk d, whose blocks are among F. -/
def DiskAt (w : World) (d : Nat) (F : Nat → Prop) (s : DS) : Prop :=
  ∃ (vh vp : Value) (bm n : Nat) (D : DataW Unit), Blk w d 91 #[vh, vp, .map (some bm), .bool s.off, .int .i64 s.fuse, .int .i64 s.ops] ∧ DiskRest w d F vh vp bm n D s.held s.pend

theorem SeenM.stay {w w' : World} {b n : Nat} {D : DataW Unit} (hm : SeenM w b n D) (hb : w'.heap[b]? = w.heap[b]?) : SeenM w' b n D := by
  obtain ⟨es, clock, he, hr⟩ := hm
  exact ⟨es, clock, hb.trans he, hr⟩
theorem SeenM.ne {w : World} {b n : Nat} {D : DataW Unit} (hm : SeenM w b n D) {g t : Nat} {cs : Array Value} (hg : Blk w g t cs) : b ≠ g := by
  obtain ⟨es, clock, he, hr⟩ := hm
  rintro rfl
  unfold Blk at hg
  rw [hg] at he
  cases he

section
variable {w w' : World} {d : Nat} {F : Nat → Prop} {vh vp : Value} {bm n : Nat} {D : DataW Unit} {held : List ByteArray} {pend : List S43}

theorem DiskRest.stay (h : DiskRest w d F vh vp bm n D held pend) (hs : w.heap.size ≤ w'.heap.size) (hb : ∀ k, F k → w'.heap[k]? = w.heap[k]?) : DiskRest w' d F vh vp bm n D held pend :=
  ⟨Kd.R_step h.rh (fun k hk _ => hb k hk), Kd.R_step h.rp (fun k hk _ => hb k hk), h.rm.stay (hb bm h.fb), h.rs, h.rn, h.fd, h.fb, fun k hk => by have := h.lt k hk; omega⟩

theorem DiskRest.below (h : DiskRest w d F vh vp bm n D held pend) (hb : Below w.heap.size w w') : DiskRest w' d F vh vp bm n D held pend := h.stay hb.size fun k hk => hb.block k (h.lt k hk)

theorem DiskRest.set (h : DiskRest w d F vh vp bm n D held pend) {cs : Array Value} (hd : Blk w d 91 cs) (j : Nat) (u : Value) : DiskRest (w.setCell ⟨d, j, none⟩ u) d F vh vp bm n D held pend :=
  ⟨Kd.R_set h.rh hd (by decide) j u, Kd.R_set h.rp hd (by decide) j u, h.rm.stay (Below.heap_setCell w ⟨d, j, none⟩ u bm (h.rm.ne hd)), h.rs, h.rn, h.fd, h.fb, fun k hk => by have := h.lt k hk; simpa using this⟩
end

/-- Nothing else has turned. -/
structure Keeps (w w' : World) (F : Nat → Prop) : Prop where
  os : w'.os = w.os
  tape : w'.tape = w.tape
  output : w'.output = w.output
  size : w.heap.size ≤ w'.heap.size
  block : ∀ k, k < w.heap.size → ¬ F k → w'.heap[k]? = w.heap[k]?

theorem Keeps.refl (w : World) (F : Nat → Prop) : Keeps w w F := ⟨rfl, rfl, rfl, Nat.le_refl _, fun _ _ _ => rfl⟩
theorem Keeps.of_below {w w' : World} (h : Below w.heap.size w w') (F : Nat → Prop) : Keeps w w' F := ⟨h.os, h.tape, h.output, h.size, fun k hk _ => h.block k hk⟩
theorem Keeps.below {w w' : World} {F : Nat → Prop} (h : Keeps w w' F) {B : Nat} (hB : B ≤ w.heap.size) (hF : ∀ k, F k → B ≤ k) : Below B w w' :=
  ⟨h.os, h.tape, h.output, h.size, fun k hk => h.block k (by omega) fun hf => by have := hF k hf; omega⟩
/-- F': F, and what is new. -/
theorem Keeps.trans {w w1 w2 : World} {F F1 : Nat → Prop} (h : Keeps w w1 F) (k : Keeps w1 w2 F1) (hF : ∀ j, F1 j → F j ∨ w.heap.size ≤ j) : Keeps w w2 F :=
  ⟨k.os.trans h.os, k.tape.trans h.tape, k.output.trans h.output, Nat.le_trans h.size k.size, fun j hj hn => (k.block j (by have := h.size; omega) fun h1 => by rcases hF j h1 with h2 | h2; exact hn h2; omega).trans (h.block j hj hn)⟩
theorem Keeps.blk {w w' : World} {F : Nat → Prop} (h : Keeps w w' F) {g : Nat} {o : Obj} (hg : w.heap[g]? = some o) (hn : ¬ F g) : w'.heap[g]? = some o := (h.block g (Array.getElem?_eq_some_iff.1 hg).1 hn).trans hg
theorem Keeps.mono {w w' : World} {F F' : Nat → Prop} (h : Keeps w w' F) (hF : ∀ k, F k → F' k) : Keeps w w' F' := ⟨h.os, h.tape, h.output, h.size, fun k hk hn => h.block k hk fun hf => hn (hF k hf)⟩

theorem Keeps.set {w w' : World} {F : Nat → Prop} (h : Keeps w w' F) {d : Nat} (fd : F d) (j : Nat) (u : Value) : Keeps w (w'.setCell ⟨d, j, none⟩ u) F :=
  ⟨h.os, h.tape, h.output, by have := h.size; simpa using this, fun k hk hn => (Below.heap_setCell w' ⟨d, j, none⟩ u k fun e => hn (by rw [e]; exact fd)).trans (h.block k hk hn)⟩

/-- A disk is what it was while none of its blocks is written. -/
theorem DiskAt.stay {w w' : World} {d : Nat} {F : Nat → Prop} {s : DS} (h : DiskAt w d F s) (hs : w.heap.size ≤ w'.heap.size) (hb : ∀ k, F k → w'.heap[k]? = w.heap[k]?) : DiskAt w' d F s := by
  obtain ⟨vh, vp, bm, n, D, hd, hr⟩ := h
  exact ⟨vh, vp, bm, n, D, (hb d hr.fd).trans hd, hr.stay hs hb⟩

theorem DiskAt.lt {w : World} {d : Nat} {F : Nat → Prop} {s : DS} (h : DiskAt w d F s) : ∀ k, F k → k < w.heap.size := by
  obtain ⟨_, _, _, _, _, _, hr⟩ := h
  exact hr.lt
theorem DiskAt.mem {w : World} {d : Nat} {F : Nat → Prop} {s : DS} (h : DiskAt w d F s) : F d := by
  obtain ⟨_, _, _, _, _, _, hr⟩ := h
  exact hr.fd

theorem DiskAt.below {w w' : World} {d : Nat} {F : Nat → Prop} {s : DS} (h : DiskAt w d F s) (hb : Below w.heap.size w w') : DiskAt w' d F s := h.stay hb.size fun k hk => hb.block k (h.lt k hk)

/-- The frame of an operation on a disk. -/
def DiskPost (w : World) (d : Nat) (F : Nat → Prop) (s : DS) (w' : World) : Prop := ∃ F', DiskAt w' d F' s ∧ (∀ k, F' k → F k ∨ w.heap.size ≤ k) ∧ Keeps w w' F
end Go.Proofs.Ytknibnbepmdapaa

/-
The disk: what it asks ahead of an operation.
-/
namespace Go.Proofs.Ytknibnbepmdapaa
open Go.RowKit Go.Proofs.YtknibnbepmdapaaW.PrintWords Go.Proofs.Ytknibnbepmdapaa.PFate
attribute [local go_sem] Oper.semAt_some

/-- A question of an operation, and whether it is met. -/
def NeedAt (w : World) (d n : Nat) (v : Value) (b : Bool) : Prop :=
  (∃ g1 g2 i, v = .func (.func 59) #[] #[.pointer (some ⟨g1, 0, none⟩), .pointer (some ⟨g2, 0, none⟩)] ∧ Blk w g1 3 #[.int .i64 i] ∧ Blk w g2 52 #[.pointer (some ⟨d, 0, none⟩)] ∧ b = thereB i n) ∨
  ∃ g s, v = .func (.func 55) #[] #[.pointer (some ⟨g, 0, none⟩)] ∧ Blk w g 9 #[.string s] ∧ b = ((s.size : Int) == 256)

theorem NeedAt.below {w w' : World} {d n : Nat} {v : Value} {b : Bool} (h : NeedAt w d n v b) (hb : Below w.heap.size w w') : NeedAt w' d n v b := by
  rcases h with ⟨g1, g2, i, rfl, h1, h2, hb'⟩ | ⟨g, s, rfl, h1, hb'⟩
  · exact .inl ⟨g1, g2, i, rfl, h1.below hb, h2.below hb, hb'⟩
  · exact .inr ⟨g, s, rfl, h1.below hb, hb'⟩

def NeedsAt (w : World) (d n : Nat) (A : Option Addr) (fs : List (Value × Bool)) : Prop :=
  (∀ p ∈ fs, NeedAt w d n p.1 p.2) ∧ (0 < fs.length → ∃ g, A = some ⟨g, 0, none⟩ ∧ Blk w g 30 (fs.map (·.1)).toArray)

/-- What asking comes to. -/
def DS.ask (s : DS) (b : Bool) : Int × DS :=
  if s.off then (10, s) else if !b then (2, s) else if s.fuse = 0 then (10, { s with off := true, fuse := -1 }) else (0, { s with fuse := max (-1) (s.fuse - 1), ops := s.ops + 1 })

def allB (fs : List (Value × Bool)) : Bool := fs.all (·.2)

theorem Kd.R_len {α : Type} {k : Kd α} {e : Nat} {w : World} {base : Nat} {F : Nat → Prop} {v : Value} {xs : List α} (h : Kd.R k e w base F v xs) : ∃ A c, v = .slice A xs.length c := by
  obtain ⟨A, c, hv, _, _⟩ := Kd.R_reads h
  exact ⟨A, c, hv⟩

set_option maxRecDepth 100000 in
set_option maxHeartbeats 1000000 in
theorem ask_in (d : Nat) (F : Nat → Prop) (s : DS) (A : Option Addr) (c : Nat) (fs : List (Value × Bool)) (w : World) (hD : DiskAt w d F s) (hN : NeedsAt w d s.held.length A fs) (hfs : fs.length ≤ 1000)
    (hf : -1 ≤ s.fuse ∧ s.fuse ≤ 1000000) (ho : 0 ≤ s.ops ∧ s.ops ≤ 1000000) :
    CallsIn Fence.wide 9 Try.prog 53 #[.pointer (some ⟨d, 0, none⟩), .slice A fs.length c] w fun e w' => e = .returned (.int .i64 (s.ask (allB fs)).1) ∧ DiskPost w d F (s.ask (allB fs)).2 w' := by
  have hF : ∀ f, Fence.wide.fn f := fun _ => trivial
  refine callsIn_of_wp Try.func53 rfl (hF _) ?_ rfl
  simp only [Try.ntmps53, List.size_toArray, List.length_cons, List.length_nil, Nat.reduceAdd, Nat.reduceSub, Array.replicate_succ, Array.replicate_zero, List.push_toArray, List.append_toArray, List.nil_append, List.cons_append]
  obtain ⟨vh, vp, bm, n, D, hd, hrest⟩ := hD
  obtain ⟨hf1, hf2⟩ := hf
  obtain ⟨ho1, ho2⟩ := ho
  obtain ⟨held, pend, off, fuse, ops⟩ := s
  dsimp only at hd hrest hN hf1 hf2 ho1 ho2 ⊢
  obtain ⟨Ah, ch, rfl⟩ := Kd.R_len hrest.rh
  have g3 : w.cell? ⟨d, 3, none⟩ = some (.bool off) := hd.cell 3
  cases off with
  | true =>
    have e0 : DS.ask ⟨held, pend, true, fuse, ops⟩ (allB fs) = (10, ⟨held, pend, true, fuse, ops⟩) := rfl
    rw [e0]
    gi_wp2
    exact ⟨rfl, _, results_tmp rfl _ _ _, rfl, F, ⟨_, _, bm, n, D, hd, hrest⟩, fun k hk => .inl hk, Keeps.refl _ _⟩
  | false =>
    gi_wp2_with fail
    gi_loopw [17] (fun u wr => ∃ k : Nat, k ≤ fs.length ∧ u = .int .i64 (k : Int) ∧ allB (fs.take k) = true ∧ Below w.heap.size w wr)
      (fun u _ => fs.length - (intOf u).toNat)
    case atStart => exact ⟨0, Nat.zero_le _, rfl, rfl, Below.refl _ _⟩
    case round =>
      obtain ⟨k, hk, rfl, hall, hbW⟩ := hrel
      rcases Nat.lt_or_ge k fs.length with hkl | hkl
      · have hkl' : (k : Int) < fs.length := by omega
        obtain ⟨g, rfl, hg⟩ := hN.2 (by omega)
        have hv : wr.cell? ⟨g, k, none⟩ = some (fs[k]).1 := by
          rw [(hg.below hbW).cell k]
          simp [hkl]
        have hneed := (hN.1 _ (List.getElem_mem hkl)).below hbW
        have htake : allB (fs.take (k + 1)) = (fs[k]).2 := by
          unfold allB at hall ⊢
          rw [List.take_add_one, List.getElem?_eq_getElem hkl, List.all_append, hall]
          simp
        have hfin : (fs[k]).2 = false → allB fs = false := by
          intro h
          unfold allB
          rw [List.all_eq_false]
          exact ⟨_, List.getElem_mem hkl, by rw [h]; simp⟩
        generalize fs[k] = p at *
        obtain ⟨v, b⟩ := p
        dsimp only at hv hneed htake hfin
        have hdr := hd.below hbW
        have hrr := hrest.below hbW
        rcases hneed with ⟨g1, g2, i, rfl, h1, h2, hb'⟩ | ⟨gs, str, rfl, h1, hb'⟩
        · gi_wp2_with fail
          refine (callsIn_wide.2 (askThere_calls g1 g2 d i Ah held.length ch _ _ _ _ _ wr h1 h2 hdr)).mono ?_
          rintro e w2 ⟨rfl, hb2⟩
          rw [← hb']
          have hbw2 := below_then hbW hbW.size hb2
          clear h1 h2 hb2 hb' hdr hrr hg hv hN
          cases b with
          | true =>
            gi_wp2
            go_roundw
            case rel => exact ⟨k + 1, by omega, by go_num, htake, hbw2⟩
            case measure => simp [intOf]; omega
          | false =>
            have e0 : DS.ask ⟨held, pend, false, fuse, ops⟩ (allB fs) = (2, ⟨held, pend, false, fuse, ops⟩) := by rw [hfin rfl]; rfl
            replace e0 := Lib.hid e0
            clear hfin htake hall
            gi_wp2
            refine ⟨rfl, _, results_tmp rfl _ _ _, ?_⟩
            rw [e0.out]
            exact ⟨rfl, F, ⟨_, _, bm, n, D, hd.below hbw2, hrest.below hbw2⟩, fun k hk => .inl hk, Keeps.of_below hbw2 _⟩
        · gi_wp2_with fail
          refine (callsIn_wide.2 (size_calls gs str wr h1)).mono ?_
          rintro e w2 ⟨rfl, rfl⟩
          rw [← hb']
          clear h1 hb' hdr hrr hg hv hN
          cases b with
          | true =>
            gi_wp2
            go_roundw
            case rel => exact ⟨k + 1, by omega, by go_num, htake, hbW⟩
            case measure => simp [intOf]; omega
          | false =>
            have e0 : DS.ask ⟨held, pend, false, fuse, ops⟩ (allB fs) = (2, ⟨held, pend, false, fuse, ops⟩) := by rw [hfin rfl]; rfl
            replace e0 := Lib.hid e0
            clear hfin htake hall
            gi_wp2
            refine ⟨rfl, _, results_tmp rfl _ _ _, ?_⟩
            rw [e0.out]
            exact ⟨rfl, F, ⟨_, _, bm, n, D, hd.below hbW, hrest.below hbW⟩, fun k hk => .inl hk, Keeps.of_below hbW _⟩
      · obtain rfl : k = fs.length := by omega
        rw [List.take_of_length_le (Nat.le_refl _)] at hall
        replace hd := hd.below hbW
        replace hrest := hrest.below hbW
        have hk := Keeps.of_below hbW F
        have fd := hrest.fd
        clear hbW hN g3 hkl
        have g3 : wr.cell? ⟨d, 3, none⟩ = some (.bool false) := hd.cell 3
        have g4 : wr.cell? ⟨d, 4, none⟩ = some (.int .i64 fuse) := hd.cell 4
        have g5 : wr.cell? ⟨d, 5, none⟩ = some (.int .i64 ops) := hd.cell 5
        have z3 := hd.frozen 3
        have z4 := hd.frozen 4
        have z5 := hd.frozen 5
        by_cases hf0 : fuse = 0
        · subst hf0
          have e0 : DS.ask ⟨held, pend, false, 0, ops⟩ (allB fs) = (10, ⟨held, pend, true, -1, ops⟩) := by rw [hall]; rfl
          replace e0 := Lib.hid e0
          clear hall
          gi_wp2
          refine ⟨rfl, _, results_tmp rfl _ _ _, ?_⟩
          rw [e0.out]
          exact ⟨rfl, F, ⟨_, _, bm, n, D, (hd.set 3 _).set 4 _, (hrest.set hd 3 _).set (hd.set 3 _) 4 _⟩, fun k hk => .inl hk, (hk.set fd 3 _).set fd 4 _⟩
        · have e0 : DS.ask ⟨held, pend, false, fuse, ops⟩ (allB fs) = (0, ⟨held, pend, false, max (-1) (fuse - 1), ops + 1⟩) := by
            unfold DS.ask
            rw [hall, if_neg (by simp), if_neg (by simp), if_neg hf0]
          replace e0 := Lib.hid e0
          clear hall
          have hb0 : (fuse == 0) = false := by rw [beq_eq_false_iff_ne]; exact hf0
          rcases (by omega : fuse = -1 ∨ 1 ≤ fuse) with hf3 | hf3
          · subst hf3
            gi_wp2
            refine ⟨rfl, _, results_tmp rfl _ _ _, ?_⟩
            rw [e0.out]
            exact ⟨rfl, F, ⟨_, _, bm, n, D, (hd.set 4 _).set 5 _, (hrest.set hd 4 _).set (hd.set 4 _) 5 _⟩, fun k hk => .inl hk, (hk.set fd 4 _).set fd 5 _⟩
          · have hm : Hid (max (-1) (fuse - 1) = fuse - 1) := Lib.hid (by omega)
            have h01 : ¬ fuse - 1 < -1 := by omega
            gi_wp2
            refine ⟨rfl, _, results_tmp rfl _ _ _, ?_⟩
            rw [e0.out, hm.out]
            exact ⟨rfl, F, ⟨_, _, bm, n, D, (hd.set 4 _).set 5 _, (hrest.set hd 4 _).set (hd.set 4 _) 5 _⟩, fun k hk => .inl hk, (hk.set fd 4 _).set fd 5 _⟩

theorem ask_calls (d : Nat) (F : Nat → Prop) (s : DS) (A : Option Addr) (c : Nat) (fs : List (Value × Bool)) (w : World) (hD : DiskAt w d F s) (hN : NeedsAt w d s.held.length A fs) (hfs : fs.length ≤ 1000)
    (hf : -1 ≤ s.fuse ∧ s.fuse ≤ 1000000) (ho : 0 ≤ s.ops ∧ s.ops ≤ 1000000) :
    Calls Try.prog 53 #[.pointer (some ⟨d, 0, none⟩), .slice A fs.length c] w fun e w' => e = .returned (.int .i64 (s.ask (allB fs)).1) ∧ DiskPost w d F (s.ask (allB fs)).2 w' :=
  (callsIn_wide (n := 9)).1 (ask_in d F s A c fs w hD hN hfs hf ho)
end Go.Proofs.Ytknibnbepmdapaa

/-
The disk: its plain questions, and how it forgets what is pending.
-/
namespace Go.Proofs.Ytknibnbepmdapaa
open Go.RowKit Go.Proofs.YtknibnbepmdapaaW.PrintWords Go.Proofs.Ytknibnbepmdapaa.PFate Go.ChangeMaps
attribute [local go_sem] Oper.semAt_some

theorem results_no {fn : Func} (h : fn.results = #[]) (tmps : Array Value) (P : Program) (w : World) : (results fn tmps).run P w = .ok (.tuple #[]) w := by simp [results, h]

theorem SeenM.clear {w : World} {b n : Nat} {D : DataW Unit} (h : SeenM w b n D) (ty : TypeId) : ∃ w', (Builtin.clear_ #[89] ty #[.map (some b)]).run Try.prog w = .ok (.tuple #[]) w' ∧ SeenM w' b 0 (.map []) ∧ w.grownBy w' (some b) := by
  obtain ⟨es, clock, hb, F, hs, hD⟩ := h
  refine ⟨setBlock w b (.map #[] clock), ?_, ⟨#[], clock, heap_setBlock_same hb _, ⟨by simp, MapKept.stamped_empty clock, by simp⟩, Nat.le_refl _, rfl⟩, ⟨rfl, rfl, rfl, by simp [setBlock], fun i _ hi => heap_setBlock_other hb _ (fun e => hi (by rw [e]))⟩⟩
  simp [Builtin.clear_, run_underlying Try.underlying89, MapKept.run_getObj_map hb, MapKept.run_setObj_map _ hb, Result.andThen, setBlock]

theorem seenOk_nil : SeenOk (.map []) [] := fun i _ => ⟨rfl, fun s h => by cases h⟩

theorem Keeps.grown {w w1 w2 : World} {F : Nat → Prop} (h : Keeps w w1 F) {b : Nat} (hg : w1.grownBy w2 (some b)) (hb : F b ∨ w.heap.size ≤ b) : Keeps w w2 F :=
  ⟨hg.os.trans h.os, hg.tape.trans h.tape, hg.output.trans h.output, Nat.le_trans h.size hg.size, fun k hk hn => (hg.block k (by have := h.size; omega) (fun e => by cases e; rcases hb with hb | hb; exact hn hb; omega)).trans (h.block k hk hn)⟩

/-- Nothing of a disk but its map is written. -/
theorem R_map {α : Type} {k : Kd α} {e : Nat} {w w2 : World} {F : Nat → Prop} {v : Value} {xs : List α} (h : Kd.R k e w 0 F v xs) {b n : Nat} {D : DataW Unit} (hm : SeenM w b n D) (hg : w.grownBy w2 (some b)) : Kd.R k e w2 0 F v xs := by
  refine Kd.R_mono (Kd.R_step (Kd.R_bound h) (fun j hj hlt => hg.block j hlt fun e => ?_)) (fun j hj => hj.1)
  cases e
  obtain ⟨_, _, _, q, _, cells, hc⟩ := hj
  exact hm.ne (g := b) (t := q) hc rfl

theorem settle_in (d : Nat) (F : Nat → Prop) (s : DS) (w : World) (hD : DiskAt w d F s) :
    CallsIn Fence.wide 9 Try.prog 56 #[.pointer (some ⟨d, 0, none⟩)] w fun e w' => e = .returned (.tuple #[]) ∧ DiskPost w d F { s with pend := [] } w' := by
  have hF : ∀ f, Fence.wide.fn f := fun _ => trivial
  refine callsIn_of_wp Try.func56 rfl (hF _) ?_ rfl
  simp only [Try.ntmps56, List.size_toArray, List.length_cons, List.length_nil, Nat.reduceAdd, Nat.reduceSub, Array.replicate_succ, Array.replicate_zero, List.push_toArray, List.append_toArray, List.nil_append, List.cons_append]
  obtain ⟨vh, vp, bm, n, D, hd, hr⟩ := hD
  obtain ⟨held, pend, off, fuse, ops⟩ := s
  dsimp only at hd hr ⊢
  have g1 : w.cell? ⟨d, 1, none⟩ = some vp := hd.cell 1
  have z1 := hd.frozen 1
  have g2 : w.cell? ⟨d, 2, none⟩ = some (.map (some bm)) := hd.cell 2
  have hd1 : Blk (w.setCell ⟨d, 1, none⟩ (.slice none 0 0)) d 91 #[vh, .slice none 0 0, .map (some bm), .bool off, .int .i64 fuse, .int .i64 ops] := hd.set 1 _
  have hr1 := hr.set hd 1 (.slice none 0 0)
  obtain ⟨w2, hrun, hs2, hg2⟩ := hr1.rm.clear 0
  have hk := ((Keeps.refl w F).set hr.fd 1 (.slice none 0 0)).grown hg2 (.inl hr.fb)
  gi_wp2
  refine ⟨rfl, _, results_no rfl _ _ _, rfl, F, ⟨vh, .slice none 0 0, bm, 0, .map [], hd1.grown hg2 (fun e => ?_), R_map hr1.rh hr1.rm hg2, Kd.R_nil _ _ _ _ _, hs2, seenOk_nil, Nat.le_refl _, hr.fd, hr.fb, fun k hk => ?_⟩, fun k hk => .inl hk, hk⟩
  · cases e; exact hr1.rm.ne hd1 rfl
  · exact Nat.lt_of_lt_of_le (hr1.lt k hk) hg2.size
theorem settle_calls (d : Nat) (F : Nat → Prop) (s : DS) (w : World) (hD : DiskAt w d F s) :
    Calls Try.prog 56 #[.pointer (some ⟨d, 0, none⟩)] w fun e w' => e = .returned (.tuple #[]) ∧ DiskPost w d F { s with pend := [] } w' := (callsIn_wide (n := 9)).1 (settle_in d F s w hD)

theorem off_in (d : Nat) (F : Nat → Prop) (s : DS) (w : World) (hD : DiskAt w d F s) : CallsIn Fence.wide 9 Try.prog 34 #[.pointer (some ⟨d, 0, none⟩)] w fun e w' => e = .returned (.bool s.off) ∧ w' = w := by
  have hF : ∀ f, Fence.wide.fn f := fun _ => trivial
  refine callsIn_of_wp Try.func34 rfl (hF _) ?_ rfl
  simp only [Try.ntmps34, List.size_toArray, List.length_cons, List.length_nil, Nat.reduceAdd, Nat.reduceSub, Array.replicate_succ, Array.replicate_zero, List.push_toArray, List.append_toArray, List.nil_append, List.cons_append]
  obtain ⟨vh, vp, bm, n, D, hd, hr⟩ := hD
  have g1 : w.cell? ⟨d, 3, none⟩ = some (.bool s.off) := hd.cell 3
  gi_wp2
  exact ⟨rfl, _, results_tmp rfl _ _ _, rfl, rfl⟩
theorem off_calls (d : Nat) (F : Nat → Prop) (s : DS) (w : World) (hD : DiskAt w d F s) : Calls Try.prog 34 #[.pointer (some ⟨d, 0, none⟩)] w fun e w' => e = .returned (.bool s.off) ∧ w' = w := (callsIn_wide (n := 9)).1 (off_in d F s w hD)
theorem ops_in (d : Nat) (F : Nat → Prop) (s : DS) (w : World) (hD : DiskAt w d F s) : CallsIn Fence.wide 9 Try.prog 43 #[.pointer (some ⟨d, 0, none⟩)] w fun e w' => e = .returned (.int .i64 s.ops) ∧ w' = w := by
  have hF : ∀ f, Fence.wide.fn f := fun _ => trivial
  refine callsIn_of_wp Try.func43 rfl (hF _) ?_ rfl
  simp only [Try.ntmps43, List.size_toArray, List.length_cons, List.length_nil, Nat.reduceAdd, Nat.reduceSub, Array.replicate_succ, Array.replicate_zero, List.push_toArray, List.append_toArray, List.nil_append, List.cons_append]
  obtain ⟨vh, vp, bm, n, D, hd, hr⟩ := hD
  have g1 : w.cell? ⟨d, 5, none⟩ = some (.int .i64 s.ops) := hd.cell 5
  gi_wp2
  exact ⟨rfl, _, results_tmp rfl _ _ _, rfl, rfl⟩
theorem ops_calls (d : Nat) (F : Nat → Prop) (s : DS) (w : World) (hD : DiskAt w d F s) : Calls Try.prog 43 #[.pointer (some ⟨d, 0, none⟩)] w fun e w' => e = .returned (.int .i64 s.ops) ∧ w' = w := (callsIn_wide (n := 9)).1 (ops_in d F s w hD)
theorem pending_in (d : Nat) (F : Nat → Prop) (s : DS) (w : World) (hD : DiskAt w d F s) : CallsIn Fence.wide 9 Try.prog 35 #[.pointer (some ⟨d, 0, none⟩)] w fun e w' => e = .returned (.int .i64 s.pend.length) ∧ w' = w := by
  have hF : ∀ f, Fence.wide.fn f := fun _ => trivial
  refine callsIn_of_wp Try.func35 rfl (hF _) ?_ rfl
  simp only [Try.ntmps35, List.size_toArray, List.length_cons, List.length_nil, Nat.reduceAdd, Nat.reduceSub, Array.replicate_succ, Array.replicate_zero, List.push_toArray, List.append_toArray, List.nil_append, List.cons_append]
  obtain ⟨vh, vp, bm, n, D, hd, hr⟩ := hD
  obtain ⟨A, c, rfl⟩ := Kd.R_len hr.rp
  have g1 : w.cell? ⟨d, 1, none⟩ = some (.slice A s.pend.length c) := hd.cell 1
  gi_wp2
  exact ⟨rfl, _, results_tmp rfl _ _ _, rfl, rfl⟩
theorem pending_calls (d : Nat) (F : Nat → Prop) (s : DS) (w : World) (hD : DiskAt w d F s) : Calls Try.prog 35 #[.pointer (some ⟨d, 0, none⟩)] w fun e w' => e = .returned (.int .i64 s.pend.length) ∧ w' = w := (callsIn_wide (n := 9)).1 (pending_in d F s w hD)
theorem sectors_in (d : Nat) (F : Nat → Prop) (s : DS) (w : World) (hD : DiskAt w d F s) : CallsIn Fence.wide 9 Try.prog 44 #[.pointer (some ⟨d, 0, none⟩)] w fun e w' => e = .returned (.int .i64 s.held.length) ∧ w' = w := by
  have hF : ∀ f, Fence.wide.fn f := fun _ => trivial
  refine callsIn_of_wp Try.func44 rfl (hF _) ?_ rfl
  simp only [Try.ntmps44, List.size_toArray, List.length_cons, List.length_nil, Nat.reduceAdd, Nat.reduceSub, Array.replicate_succ, Array.replicate_zero, List.push_toArray, List.append_toArray, List.nil_append, List.cons_append]
  obtain ⟨vh, vp, bm, n, D, hd, hr⟩ := hD
  obtain ⟨A, c, rfl⟩ := Kd.R_len hr.rh
  have g1 : w.cell? ⟨d, 0, none⟩ = some (.slice A s.held.length c) := hd.cell 0
  gi_wp2
  exact ⟨rfl, _, results_tmp rfl _ _ _, rfl, rfl⟩
theorem sectors_calls (d : Nat) (F : Nat → Prop) (s : DS) (w : World) (hD : DiskAt w d F s) : Calls Try.prog 44 #[.pointer (some ⟨d, 0, none⟩)] w fun e w' => e = .returned (.int .i64 s.held.length) ∧ w' = w := (callsIn_wide (n := 9)).1 (sectors_in d F s w hD)
theorem off_nil (w : World) : Calls Try.prog 34 #[.pointer none] w fun e w' => e = .returned (.bool false) ∧ w' = w := by
  refine (callsIn_wide (n := 9)).1 ?_
  have hF : ∀ f, Fence.wide.fn f := fun _ => trivial
  refine callsIn_of_wp Try.func34 rfl (hF _) ?_ rfl
  simp only [Try.ntmps34, List.size_toArray, List.length_cons, List.length_nil, Nat.reduceAdd, Nat.reduceSub, Array.replicate_succ, Array.replicate_zero, List.push_toArray, List.append_toArray, List.nil_append, List.cons_append]
  gi_wp2
  exact ⟨rfl, _, results_tmp rfl _ _ _, rfl, rfl⟩
theorem ops_nil (w : World) : Calls Try.prog 43 #[.pointer none] w fun e w' => e = .returned (.int .i64 0) ∧ w' = w := by
  refine (callsIn_wide (n := 9)).1 ?_
  have hF : ∀ f, Fence.wide.fn f := fun _ => trivial
  refine callsIn_of_wp Try.func43 rfl (hF _) ?_ rfl
  simp only [Try.ntmps43, List.size_toArray, List.length_cons, List.length_nil, Nat.reduceAdd, Nat.reduceSub, Array.replicate_succ, Array.replicate_zero, List.push_toArray, List.append_toArray, List.nil_append, List.cons_append]
  gi_wp2
  exact ⟨rfl, _, results_tmp rfl _ _ _, rfl, rfl⟩
theorem pending_nil (w : World) : Calls Try.prog 35 #[.pointer none] w fun e w' => e = .returned (.int .i64 0) ∧ w' = w := by
  refine (callsIn_wide (n := 9)).1 ?_
  have hF : ∀ f, Fence.wide.fn f := fun _ => trivial
  refine callsIn_of_wp Try.func35 rfl (hF _) ?_ rfl
  simp only [Try.ntmps35, List.size_toArray, List.length_cons, List.length_nil, Nat.reduceAdd, Nat.reduceSub, Array.replicate_succ, Array.replicate_zero, List.push_toArray, List.append_toArray, List.nil_append, List.cons_append]
  gi_wp2
  exact ⟨rfl, _, results_tmp rfl _ _ _, rfl, rfl⟩
theorem sectors_nil (w : World) : Calls Try.prog 44 #[.pointer none] w fun e w' => e = .returned (.int .i64 0) ∧ w' = w := by
  refine (callsIn_wide (n := 9)).1 ?_
  have hF : ∀ f, Fence.wide.fn f := fun _ => trivial
  refine callsIn_of_wp Try.func44 rfl (hF _) ?_ rfl
  simp only [Try.ntmps44, List.size_toArray, List.length_cons, List.length_nil, Nat.reduceAdd, Nat.reduceSub, Array.replicate_succ, Array.replicate_zero, List.push_toArray, List.append_toArray, List.nil_append, List.cons_append]
  gi_wp2
  exact ⟨rfl, _, results_tmp rfl _ _ _, rfl, rfl⟩

theorem arm_in (d : Nat) (F : Nat → Prop) (s : DS) (w : World) (n : Int) (hD : DiskAt w d F s) :
    CallsIn Fence.wide 9 Try.prog 28 #[.pointer (some ⟨d, 0, none⟩), .int .i64 n] w fun e w' => e = .returned (.tuple #[]) ∧ DiskPost w d F { s with fuse := max (-1) n } w' := by
  have hF : ∀ f, Fence.wide.fn f := fun _ => trivial
  refine callsIn_of_wp Try.func28 rfl (hF _) ?_ rfl
  simp only [Try.ntmps28, List.size_toArray, List.length_cons, List.length_nil, Nat.reduceAdd, Nat.reduceSub, Array.replicate_succ, Array.replicate_zero, List.push_toArray, List.append_toArray, List.nil_append, List.cons_append]
  obtain ⟨vh, vp, bm, m, D, hd, hr⟩ := hD
  have g4 : w.cell? ⟨d, 4, none⟩ = some (.int .i64 s.fuse) := hd.cell 4
  have z4 := hd.frozen 4
  rcases (by omega : n ≤ -1 ∨ 0 ≤ n) with hn | hn
  · have hm : max (-1) n = -1 := by omega
    rcases (by omega : n < -1 ∨ n = -1) with hn1 | rfl
    · gi_wp2
      refine ⟨rfl, _, results_no rfl _ _ _, rfl, F, ⟨vh, vp, bm, m, D, ?_, hr.set hd 4 _⟩, fun k hk => .inl hk, (Keeps.refl w F).set hr.fd 4 _⟩
      rw [hm]; exact hd.set 4 _
    · gi_wp2
      exact ⟨rfl, _, results_no rfl _ _ _, rfl, F, ⟨vh, vp, bm, m, D, hd.set 4 _, hr.set hd 4 _⟩, fun k hk => .inl hk, (Keeps.refl w F).set hr.fd 4 _⟩
  · have hm : Hid (max (-1) n = n) := Lib.hid (by omega)
    have hn1 : ¬ n < -1 := by omega
    gi_wp2
    refine ⟨rfl, _, results_no rfl _ _ _, rfl, F, ⟨vh, vp, bm, m, D, ?_, hr.set hd 4 _⟩, fun k hk => .inl hk, (Keeps.refl w F).set hr.fd 4 _⟩
    rw [hm.out]; exact hd.set 4 _
theorem arm_calls (d : Nat) (F : Nat → Prop) (s : DS) (w : World) (n : Int) (hD : DiskAt w d F s) :
    Calls Try.prog 28 #[.pointer (some ⟨d, 0, none⟩), .int .i64 n] w fun e w' => e = .returned (.tuple #[]) ∧ DiskPost w d F { s with fuse := max (-1) n } w' := (callsIn_wide (n := 9)).1 (arm_in d F s w n hD)
theorem arm_nil (n : Int) (w : World) : Calls Try.prog 28 #[.pointer none, .int .i64 n] w fun e w' => e = .returned (.tuple #[]) ∧ w' = w := by
  refine (callsIn_wide (n := 9)).1 ?_
  have hF : ∀ f, Fence.wide.fn f := fun _ => trivial
  refine callsIn_of_wp Try.func28 rfl (hF _) ?_ rfl
  simp only [Try.ntmps28, List.size_toArray, List.length_cons, List.length_nil, Nat.reduceAdd, Nat.reduceSub, Array.replicate_succ, Array.replicate_zero, List.push_toArray, List.append_toArray, List.nil_append, List.cons_append]
  gi_wp2
  exact ⟨rfl, _, results_no rfl _ _ _, rfl, rfl⟩
theorem boot_nil (v : Value) (w : World) : Calls Try.prog 33 #[.pointer none, v] w fun e w' => e = .returned (.tuple #[]) ∧ w' = w := by
  refine (callsIn_wide (n := 9)).1 ?_
  have hF : ∀ f, Fence.wide.fn f := fun _ => trivial
  refine callsIn_of_wp Try.func33 rfl (hF _) ?_ rfl
  simp only [Try.ntmps33, List.size_toArray, List.length_cons, List.length_nil, Nat.reduceAdd, Nat.reduceSub, Array.replicate_succ, Array.replicate_zero, List.push_toArray, List.append_toArray, List.nil_append, List.cons_append]
  gi_wp2
  exact ⟨rfl, _, results_no rfl _ _ _, rfl, rfl⟩
end Go.Proofs.Ytknibnbepmdapaa
