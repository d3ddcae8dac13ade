/-
The functions that are walked by hand, in the form of the printed ones.
-/
import Derived.Test.YtknibnbepmdapaaGg
namespace Go.Proofs.Ytknibnbepmdapaa.PFate
open Go.RowKit Go.Proofs.YtknibnbepmdapaaW.PrintWords Go.Proofs.Ytknibnbepmdapaa

def bytesB (l : List Int) : Bool := l.all fun x => decide (0 ≤ x ∧ x < 256)
theorem bytesB_iff (l : List Int) : bytesB l = true ↔ Bytes l := by unfold bytesB Bytes; simp only [List.all_eq_true, decide_eq_true_eq]
def all256B (l : List ByteArray) : Bool := l.all fun s => decide (s.size = 256)
theorem all256B_iff (l : List ByteArray) : all256B l = true ↔ All256 l := by unfold all256B All256; simp only [List.all_eq_true, decide_eq_true_eq]

def fate_Read.f (l0 : List Int) (a1 : Int) : Option (List Bool × Int × Int) := if bytesB l0 = true then some (fateRead l0 a1) else none
theorem fate_Read.calls (A0 : Option Addr) (c0 : Nat) (l0 : List Int) (a1 : Int) (r1 : List Bool) (r2 : Int) (r3 : Int) (w : World) (hr0 : Kd.C (Kd.int .u8) w A0 l0.length l0) (hc0 : l0.length ≤ c0) (h : fate_Read.f l0 a1 = some (r1, r2, r3)) :
    Calls Try.prog 22 #[.slice A0 l0.length c0, .int .i64 a1] w fun e w' => ∃ v0_, e = .returned (.agg #[v0_, .int .i64 r2, .int .i64 r3]) ∧ Kd.R Kd.bool 4 w' w.heap.size (fun _ => True) v0_ r1 ∧ Below w.heap.size w w' := by
  unfold fate_Read.f at h
  split at h
  · rename_i hb
    replace hb := (bytesB_iff _).1 hb
    have := (callsIn_wide (n := 9)).1 (read_in A0 c0 l0 a1 w hr0 hc0 hb)
    rw [Option.some.injEq] at h
    rw [h] at this
    exact this
  · cases h

def foyerref04_Read.f (l0 : List Int) (a1 : Int) : Option (List Bool × Int × Int) := if bytesB l0 = true then some (fateRead l0 a1) else none
theorem foyerref04_Read.calls (A0 : Option Addr) (c0 : Nat) (l0 : List Int) (a1 : Int) (r1 : List Bool) (r2 : Int) (r3 : Int) (w : World) (hr0 : Kd.C (Kd.int .u8) w A0 l0.length l0) (_hc0 : l0.length ≤ c0) (h : foyerref04_Read.f l0 a1 = some (r1, r2, r3)) :
    Calls Try.prog 15 #[.slice A0 l0.length c0, .int .i64 a1] w fun e w' => ∃ v0_, e = .returned (.agg #[v0_, .int .i64 r2, .int .i64 r3]) ∧ Kd.R Kd.bool 4 w' w.heap.size (fun _ => True) v0_ r1 ∧ Below w.heap.size w w' := by
  unfold foyerref04_Read.f at h
  split at h
  · rename_i hb
    replace hb := (bytesB_iff _).1 hb
    have := refRead_calls A0 c0 l0 a1 w hr0 hb
    rw [Option.some.injEq] at h
    rw [refRead_eq hb, h] at this
    exact this
  · cases h

def fate_Put.f (l0_0 : List Bool) (a0_1 : Int) (a0_2 : Int) : Option (List Int × Int) := some (fatePut l0_0 a0_1 a0_2)
theorem fate_Put.calls (A0_0 : Option Addr) (c0_0 : Nat) (l0_0 : List Bool) (a0_1 : Int) (a0_2 : Int) (r1 : List Int) (r2 : Int) (w : World) (hr0_0 : Kd.C Kd.bool w A0_0 l0_0.length l0_0) (_hc0_0 : l0_0.length ≤ c0_0) (h : fate_Put.f l0_0 a0_1 a0_2 = some (r1, r2)) :
    Calls Try.prog 13 #[.agg #[.slice A0_0 l0_0.length c0_0, .int .i64 a0_1, .int .i64 a0_2]] w fun e w' => ∃ v0_, e = .returned (.tuple #[v0_, .int .i64 r2]) ∧ Kd.R (Kd.int .u8) 5 w' w.heap.size (fun _ => True) v0_ r1 ∧ Below w.heap.size w w' := by
  have := put_calls A0_0 c0_0 l0_0 a0_1 a0_2 w hr0_0
  unfold fate_Put.f at h
  rw [Option.some.injEq] at h
  rw [h] at this
  exact this

def fate_After.f (l0 : List ByteArray) (l1 : List S43) (l2_0 : List Bool) (a2_1 : Int) (a2_2 : Int) : Option (List ByteArray) := if all256B l0 = true ∧ l0.length ≤ 17592186044416 then some (fateAfter l0 l1 l2_0 a2_1 a2_2) else none
theorem fate_After.calls (A0 : Option Addr) (c0 : Nat) (l0 : List ByteArray) (A1 : Option Addr) (c1 : Nat) (l1 : List S43) (A2_0 : Option Addr) (c2_0 : Nat) (l2_0 : List Bool) (a2_1 : Int) (a2_2 : Int) (r : List ByteArray) (w : World) (hr0 : Kd.C Kd.string w A0 l0.length l0) (_hc0 : l0.length ≤ c0) (hr1 : Kd.C k43 w A1 l1.length l1) (_hc1 : l1.length ≤ c1) (hr2_0 : Kd.C Kd.bool w A2_0 l2_0.length l2_0) (_hc2_0 : l2_0.length ≤ c2_0) (h : fate_After.f l0 l1 l2_0 a2_1 a2_2 = some r) :
    Calls Try.prog 19 #[.slice A0 l0.length c0, .slice A1 l1.length c1, .agg #[.slice A2_0 l2_0.length c2_0, .int .i64 a2_1, .int .i64 a2_2]] w fun e w' => ∃ v0_, e = .returned v0_ ∧ Kd.R Kd.string 9 w' w.heap.size (fun _ => True) v0_ r ∧ Below w.heap.size w w' := by
  unfold fate_After.f at h
  split at h
  · rename_i hb
    have := after_calls A0 c0 l0 A1 c1 l1 A2_0 c2_0 l2_0 a2_1 a2_2 w hr0 hr1 hr2_0 ((all256B_iff _).1 hb.1) hb.2
    rw [Option.some.injEq] at h
    rw [h] at this
    exact this
  · cases h

def foyerlaw04_works.f : Option Bool := some true
theorem foyerlaw04_works.calls (r : Bool) (w : World) (h : foyerlaw04_works.f = some r) :
    Calls Try.prog 16 #[] w fun e w' => e = .returned (.bool r) ∧ Below w.heap.size w w' := by
  unfold foyerlaw04_works.f at h
  rw [Option.some.injEq] at h
  subst h
  exact works_calls w
end Go.Proofs.Ytknibnbepmdapaa.PFate
