/-
DiskLasts: the calls, with the array beside; what a write, a reading and a Barrier turn.
-/
import Derived.Test.YtknibnbepmdapaaQc
namespace Go.Proofs.Ytknibnbepmdapaa
open Go.RowKit Go.Shelf Go.Proofs.YtknibnbepmdapaaW.PrintWords Go.Proofs.Ytknibnbepmdapaa.PFate Go.ChangeMaps Go.Maps

theorem write_may (s : DS) (i : Int) (str : ByteArray) : ∃ er s1, s.write i str = (er, s1) ∧ s1.held = s.held ∧ (((er = 2 ∨ er = 10) ∧ s1.pend = s.pend) ∨ (er = 0 ∧ s1.pend = s.pend ++ [⟨i, str⟩])) := by
  unfold DS.write
  dsimp only
  obtain ⟨e1, e2⟩ := ask_same s (thereB i s.held.length && ((str.size : Int) == 256))
  have e3 := ask_err s (thereB i s.held.length && ((str.size : Int) == 256))
  split
  · exact ⟨_, _, rfl, e1, .inr ⟨rfl, by show (s.ask _).2.pend ++ _ = _; rw [e2]⟩⟩
  · rename_i h
    exact ⟨_, _, rfl, e1, .inl ⟨by rcases e3 with e | e | e; exact absurd e h; exact .inl e; exact .inr e, e2⟩⟩
theorem read_may2 (s : DS) (i : Int) : ∃ t er s1, s.read i = (t, er, s1) ∧ s1.held = s.held ∧ s1.pend = s.pend ∧ ((er = 2 ∨ er = 10) ∨ (er = 0 ∧ t = s.at i)) := by
  unfold DS.read
  dsimp only
  obtain ⟨e1, e2⟩ := ask_same s (thereB i s.held.length)
  have e3 := ask_err s (thereB i s.held.length)
  split
  · exact ⟨_, _, _, rfl, e1, e2, .inr ⟨rfl, rfl⟩⟩
  · rename_i h
    exact ⟨_, _, _, rfl, e1, e2, .inl (by rcases e3 with e | e | e; exact absurd e h; exact .inl e; exact .inr e)⟩
theorem barrier_may (s : DS) : ∃ er s1, s.barrier = (er, s1) ∧ (((er = 2 ∨ er = 10) ∧ s1.held = s.held ∧ s1.pend = s.pend) ∨ (er = 0 ∧ s1.held = comeAll s.held s.pend ∧ s1.pend = [])) := by
  unfold DS.barrier
  dsimp only
  obtain ⟨e1, e2⟩ := ask_same s true
  have e3 := ask_err s true
  split
  · exact ⟨_, _, rfl, .inr ⟨rfl, by show comeAll (s.ask true).2.held (s.ask true).2.pend = _; rw [e1, e2], rfl⟩⟩
  · rename_i h
    exact ⟨_, _, rfl, .inl ⟨by rcases e3 with e | e | e; exact absurd e h; exact .inl e; exact .inr e, e1, e2⟩⟩

/-- What each sector may be, of a disk. -/
def mayS (s : DS) (k : Nat) : List ByteArray := mayOf s.held s.pend k
theorem mayS_eq {s s1 : DS} (h1 : s1.held = s.held) (h2 : s1.pend = s.pend) : mayS s1 = mayS s := by funext k; unfold mayS; rw [h1, h2]
theorem mayS_length (s : DS) (k : Nat) : (mayS s k).length ≤ s.pend.length + 1 := by
  unfold mayS mayOf
  rw [List.length_cons, List.length_map]
  have := List.length_filter_le (fun x : S43 => decide (x.f0 = (k : Int))) s.pend
  omega
theorem mayS_256 {s : DS} {n m : Nat} (h : Good s n m) {k : Nat} (hk : k < n) : ∀ x ∈ mayS s k, x.size = 256 := by
  intro x hx
  unfold mayS mayOf at hx
  rcases List.mem_cons.1 hx with rfl | hx
  · rw [List.getD_eq_getElem?_getD, List.getElem?_eq_getElem (by rw [h.len]; exact hk)]
    exact h.all _ (List.getElem_mem _)
  · obtain ⟨y, hy, rfl⟩ := List.mem_map.1 hx
    exact (h.pok y (List.mem_filter.1 hy).1).2
theorem mayS_write {s s1 : DS} {k : Nat} {str : ByteArray} (h1 : s1.held = s.held) (h2 : s1.pend = s.pend ++ [⟨(k : Int), str⟩]) (j : Nat) : mayS s1 j = if j = k then mayS s k ++ [str] else mayS s j := by
  unfold mayS
  rw [h1, h2, mayOf_snoc]
  by_cases h : j = k
  · subst h; rw [if_pos rfl, if_pos rfl]
  · rw [if_neg (show ¬ ((k : Int) = (j : Int)) by omega), if_neg h]
theorem mayS_last {s : DS} {n m : Nat} (h : Good s n m) {k : Nat} (hk : k < n) : ∃ ys, mayS s k = ys ++ [(comeAll s.held s.pend).getD k ByteArray.empty] := by
  have hl := mayOf_last s.held s.pend (by rw [h.len]; exact h.pok) k (by rw [h.len]; exact hk)
  obtain ⟨ys, hys⟩ := List.getLast?_eq_some_iff.1 hl
  exact ⟨ys, hys⟩
theorem mayS_barrier {s s1 : DS} (h1 : s1.held = comeAll s.held s.pend) (h2 : s1.pend = []) (j : Nat) : mayS s1 j = [(comeAll s.held s.pend).getD j ByteArray.empty] := by
  unfold mayS mayOf
  rw [h1, h2]
  rfl
theorem at_write {s s1 : DS} {k : Nat} {str : ByteArray} (h2 : s1.pend = s.pend ++ [⟨(k : Int), str⟩]) : s1.at (k : Int) = str := by
  unfold DS.at
  rw [h2, lastOf_snoc, if_pos rfl]
  rfl

section
variable {n m N k : Nat} {w0 w : World} {d g8 : Nat} {s : DS} {X : Nat → List ByteArray}
theorem both_write (h : Both n w0 w d g8 s X) (hg : Good s N m) (hm : m ≤ 100000) {i : Int} {str : ByteArray} (hi : (Lit.int .i64 i).wf = true) (hstr : str.size ≤ 1000000) :
    Calls Try.prog 30 #[.pointer (some ⟨d, 0, none⟩), .int .i64 i, .string str] w fun x w' => x = .returned (.int .i64 (s.write i str).1) ∧ Both n w0 w' d g8 (s.write i str).2 X := by
  obtain ⟨F, M, hD, hM, hne, h1, h2, h0⟩ := h
  have := hg.pl; have := hg.o0; have := hg.o1; have := hg.f0; have := hg.f1
  refine (write_calls d F s i str w hD hi hstr ⟨by omega, by omega⟩ ⟨by omega, by omega⟩ (by omega)).mono ?_
  rintro x w' ⟨rfl, hp⟩
  exact ⟨rfl, Both.stepD hM hne h1 h2 h0 hp⟩
theorem both_read (h : Both n w0 w d g8 s X) (hg : Good s N m) (hm : m ≤ 100000) {i : Int} (hi : (Lit.int .i64 i).wf = true) :
    Calls Try.prog 31 #[.pointer (some ⟨d, 0, none⟩), .int .i64 i] w fun x w' => x = .returned (.tuple #[.string (s.read i).1, .int .i64 (s.read i).2.1]) ∧ Both n w0 w' d g8 (s.read i).2.2 X := by
  obtain ⟨F, M, hD, hM, hne, h1, h2, h0⟩ := h
  have := hg.pl; have := hg.o0; have := hg.o1; have := hg.f0; have := hg.f1
  refine (read_disk_calls d F s i w hD hi ⟨by omega, by omega⟩ ⟨by omega, by omega⟩).mono ?_
  rintro x w' ⟨rfl, hp⟩
  exact ⟨rfl, Both.stepD hM hne h1 h2 h0 hp⟩
theorem both_barrier (h : Both n w0 w d g8 s X) (hg : Good s N m) (hm : m ≤ 100000) (hn : N ≤ 100000) :
    Calls Try.prog 32 #[.pointer (some ⟨d, 0, none⟩)] w fun x w' => x = .returned (.int .i64 s.barrier.1) ∧ Both n w0 w' d g8 s.barrier.2 X := by
  obtain ⟨F, M, hD, hM, hne, h1, h2, h0⟩ := h
  have := hg.pl; have := hg.o0; have := hg.o1; have := hg.f0; have := hg.f1; have hl := hg.len
  refine (barrier_calls d F s w hD (by rw [hl]; exact hg.pok) (by omega) ⟨by omega, by omega⟩ ⟨by omega, by omega⟩).mono ?_
  rintro x w' ⟨rfl, hp⟩
  exact ⟨rfl, Both.stepD hM hne h1 h2 h0 hp⟩
theorem both_arm (h : Both n w0 w d g8 s X) (k : Int) :
    Calls Try.prog 28 #[.pointer (some ⟨d, 0, none⟩), .int .i64 k] w fun x w' => x = .returned (.tuple #[]) ∧ Both n w0 w' d g8 { s with fuse := max (-1) k } X := by
  obtain ⟨F, M, hD, hM, hne, h1, h2, h0⟩ := h
  refine (arm_calls d F s w k hD).mono ?_
  rintro x w' ⟨rfl, hp⟩
  exact ⟨rfl, Both.stepD hM hne h1 h2 h0 hp⟩
theorem both_boot (h : Both n w0 w d g8 s X) (hg : Good s N m) (hn : N ≤ 100000) {A : Option Addr} {c0 : Nat} {cs : List Int} (hcs : Kd.C (Kd.int .u8) w A cs.length cs) (hc0 : cs.length ≤ c0) (hby : Bytes cs) :
    Calls Try.prog 33 #[.pointer (some ⟨d, 0, none⟩), .slice A cs.length c0] w fun x w' => x = .returned (.tuple #[]) ∧ Both n w0 w' d g8 (s.boot cs) X := by
  obtain ⟨F, M, hD, hM, hne, h1, h2, h0⟩ := h
  have hl := hg.len
  refine (boot_calls d F s A c0 cs w hD hcs hc0 hby hg.all (by omega)).mono ?_
  rintro x w' ⟨rfl, hp⟩
  exact ⟨rfl, Both.stepD hM hne h1 h2 h0 hp⟩
theorem both_off (h : Both n w0 w d g8 s X) : Calls Try.prog 34 #[.pointer (some ⟨d, 0, none⟩)] w fun e w' => e = .returned (.bool s.off) ∧ w' = w := by obtain ⟨F, _, hD, _⟩ := h; exact off_calls d F s w hD
theorem both_pending (h : Both n w0 w d g8 s X) : Calls Try.prog 35 #[.pointer (some ⟨d, 0, none⟩)] w fun e w' => e = .returned (.int .i64 s.pend.length) ∧ w' = w := by obtain ⟨F, _, hD, _⟩ := h; exact pending_calls d F s w hD
theorem both_cell8 (h : Both n w0 w d g8 s X) (hk : k < 8) : (∃ u, w.cell? ⟨g8, k, none⟩ = some u) ∧ w.frozen? ⟨g8, k, none⟩ = false := by
  obtain ⟨va, gs, hs, hB, _⟩ := h.parts
  exact ⟨⟨_, (hB.cell k).trans (Array.getElem?_eq_getElem (by omega))⟩, hB.frozen k⟩
end

/-- A put, as it is drawn. -/
structure P57 where
  sec : Int
  letter : Int
  bar : Bool
def P57.In (x : P57) : Prop := (0 ≤ x.sec ∧ x.sec < 256) ∧ (0 ≤ x.letter ∧ x.letter < 256)
def PutAt (w : World) (ad : Addr) (x : P57) : Prop :=
  w.cell? ad = some (.int .u8 x.sec) ∧ w.cell? ⟨ad.block, ad.off + 1, none⟩ = some (.int .u8 x.letter) ∧ w.cell? ⟨ad.block, ad.off + 2, none⟩ = some (.bool x.bar)
def PutsAt (w : World) (A : Option Addr) (L : List P57) : Prop := ∀ j x, L[j]? = some x → ∃ ad, A = some ad ∧ PutAt w (ad.add (j * 3)) x
end Go.Proofs.Ytknibnbepmdapaa
