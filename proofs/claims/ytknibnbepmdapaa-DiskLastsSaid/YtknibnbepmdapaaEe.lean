/-
DiskPlays: two disks side by side.
-/
import Derived.Test.YtknibnbepmdapaaEd
import Derived.Test.YtknibnbepmdapaaDj
import Derived.Test.YtknibnbepmdapaaReg5
namespace Go.Proofs.Ytknibnbepmdapaa
open Go.RowKit Go.Shelf Go.Proofs.YtknibnbepmdapaaW.PrintWords Go.Proofs.Ytknibnbepmdapaa.PFate Go.ChangeMaps Go.Maps
attribute [local go_sem] Oper.semAt_some

/-- A disk and the document's, which do not share memory. -/
def Two (G : List (Nat × Obj)) (w0 w : World) (d r : Nat) (sd sr : DS) : Prop :=
  ∃ Fd Fr, DiskAt w d Fd sd ∧ RefAt w r Fr sr ∧ (∀ k, Fd k → ¬ Fr k) ∧ (∀ k, Fd k → w0.heap.size ≤ k) ∧ (∀ k, Fr k → w0.heap.size ≤ k) ∧ Below w0.heap.size w0 w ∧ ∀ p ∈ G, w.heap[p.1]? = some p.2 ∧ ¬ Fd p.1 ∧ ¬ Fr p.1

section
variable {G : List (Nat × Obj)} {w0 w w' : World} {d r : Nat} {sd sr s' : DS}
theorem Two.below (h : Two G w0 w d r sd sr) (hb : Below w.heap.size w w') : Two G w0 w' d r sd sr := by
  obtain ⟨Fd, Fr, hD, hR, hne, h1, h2, h0, hG⟩ := h
  exact ⟨Fd, Fr, hD.below hb, hR.below hb, hne, h1, h2, below_then h0 h0.size hb, fun p hp => ⟨blk_below (hG p hp).1 hb, (hG p hp).2⟩⟩
theorem Two.base (h : Two G w0 w d r sd sr) : Below w0.heap.size w0 w := by
  obtain ⟨_, _, _, _, _, _, _, h0, _⟩ := h
  exact h0
theorem Two.drew (h : Two G w0 w d r sd sr) : Two G w0 w.drew d r sd sr := h.below (Below.refl _ _).drew
theorem Two.stepD {Fd Fr : Nat → Prop} (hR : RefAt w r Fr sr) (hne : ∀ k, Fd k → ¬ Fr k) (h1 : ∀ k, Fd k → w0.heap.size ≤ k) (h2 : ∀ k, Fr k → w0.heap.size ≤ k) (h0 : Below w0.heap.size w0 w) (hG : ∀ p ∈ G, w.heap[p.1]? = some p.2 ∧ ¬ Fd p.1 ∧ ¬ Fr p.1) (hp : DiskPost w d Fd s' w') : Two G w0 w' d r s' sr := by
  obtain ⟨F', hD', hF', hk⟩ := hp
  refine ⟨F', Fr, hD', hR.stay hk.size (fun k hf => hk.block k (hR.lt k hf) (fun hd => hne k hd hf)), fun k hf hr => ?_, fun k hf => ?_, h2, h0.trans (hk.below h0.size h1), fun p hp => ⟨hk.blk (hG p hp).1 (hG p hp).2.1, fun hf => ?_, (hG p hp).2.2⟩⟩
  · rcases hF' k hf with h | h
    · exact hne k h hr
    · have := hR.lt k hr; omega
  · rcases hF' k hf with h | h
    · exact h1 k h
    · have := h0.size; omega
  · rcases hF' p.1 hf with h | h
    · exact (hG p hp).2.1 h
    · have := blk_lt (hG p hp).1; omega
theorem Two.stepR {Fd Fr : Nat → Prop} (hD : DiskAt w d Fd sd) (hne : ∀ k, Fd k → ¬ Fr k) (h1 : ∀ k, Fd k → w0.heap.size ≤ k) (h2 : ∀ k, Fr k → w0.heap.size ≤ k) (h0 : Below w0.heap.size w0 w) (hG : ∀ p ∈ G, w.heap[p.1]? = some p.2 ∧ ¬ Fd p.1 ∧ ¬ Fr p.1) (hp : RefPost w r Fr s' w') : Two G w0 w' d r sd s' := by
  obtain ⟨F', hR', hF', hk⟩ := hp
  refine ⟨Fd, F', hD.stay hk.size (fun k hf => hk.block k (hD.lt k hf) (fun hr => hne k hf hr)), hR', fun k hf hr => ?_, h1, fun k hf => ?_, h0.trans (hk.below h0.size h2), fun p hp => ⟨hk.blk (hG p hp).1 (hG p hp).2.2, (hG p hp).2.1, fun hf => ?_⟩⟩
  · rcases hF' k hr with h | h
    · exact hne k hf h
    · have := hD.lt k hf; omega
  · rcases hF' k hf with h | h
    · exact h2 k h
    · have := h0.size; omega
  · rcases hF' p.1 hf with h | h
    · exact (hG p hp).2.2 h
    · have := blk_lt (hG p hp).1; omega
/-- A block of the call's own, beside the disks. -/
theorem Two.alloc (h : Two G w0 w d r sd sr) (o : Obj) : Two ((w.heap.size, o) :: G) w0 (w.alloc o) d r sd sr := by
  obtain ⟨Fd, Fr, hD, hR, hne, h1, h2, h0, hG⟩ := h
  refine ⟨Fd, Fr, hD.below (below_alloc (Below.refl _ _) o), hR.below (below_alloc (Below.refl _ _) o), hne, h1, h2, below_alloc h0 o, fun p hp => ?_⟩
  rcases List.mem_cons.1 hp with rfl | hp
  · exact ⟨blk_new w o, fun hf => by have := hD.lt _ hf; omega, fun hf => by have := hR.lt _ hf; omega⟩
  · exact ⟨blk_alloc (hG p hp).1 o, (hG p hp).2⟩
theorem Two.none (h : Two G w0 w d r sd sr) : Two [] w0 w d r sd sr := by
  obtain ⟨Fd, Fr, hD, hR, hne, h1, h2, h0, _⟩ := h
  exact ⟨Fd, Fr, hD, hR, hne, h1, h2, h0, fun p hp => by cases hp⟩
theorem Two.blk (h : Two G w0 w d r sd sr) {p : Nat × Obj} (hp : p ∈ G) : w.heap[p.1]? = some p.2 := by
  obtain ⟨_, _, _, _, _, _, _, _, hG⟩ := h
  exact (hG p hp).1
end

/-- What is kept of a state: m bounds what was done. -/
structure Good (s : DS) (n m : Nat) : Prop where
  len : s.held.length = n
  all : All256 s.held
  pok : PendOk n s.pend
  pl : s.pend.length ≤ m
  o0 : 0 ≤ s.ops
  o1 : s.ops ≤ m
  f0 : -1 ≤ s.fuse
  f1 : s.fuse ≤ 1000

section
variable {s : DS} {n m : Nat}
theorem Good.more (h : Good s n m) {m' : Nat} (hm : m ≤ m') : Good s n m' := ⟨h.len, h.all, h.pok, Nat.le_trans h.pl hm, h.o0, by have := h.o1; omega, h.f0, h.f1⟩
theorem Good.ask (h : Good s n m) (b : Bool) : Good (s.ask b).2 n (m + 1) := by
  obtain ⟨h1, h2, h3, h4, h5, h6, h7, h8⟩ := h
  unfold DS.ask
  split
  · exact ⟨h1, h2, h3, by show s.pend.length ≤ m + 1; omega, h5, by show s.ops ≤ ((m + 1 : Nat) : Int); omega, h7, h8⟩
  · split
    · exact ⟨h1, h2, h3, by show s.pend.length ≤ m + 1; omega, h5, by show s.ops ≤ ((m + 1 : Nat) : Int); omega, h7, h8⟩
    · split
      · exact ⟨h1, h2, h3, by show s.pend.length ≤ m + 1; omega, h5, by show s.ops ≤ ((m + 1 : Nat) : Int); omega, by show (-1 : Int) ≤ -1; omega, by show (-1 : Int) ≤ 1000; omega⟩
      · exact ⟨h1, h2, h3, by show s.pend.length ≤ m + 1; omega, by show 0 ≤ s.ops + 1; omega, by show s.ops + 1 ≤ ((m + 1 : Nat) : Int); omega, by show -1 ≤ max (-1) (s.fuse - 1); omega, by show max (-1) (s.fuse - 1) ≤ 1000; omega⟩
theorem Good.read (h : Good s n m) (i : Int) : Good (s.read i).2.2 n (m + 1) := by
  unfold DS.read
  dsimp only
  split <;> exact h.ask _
theorem Good.write (h : Good s n m) (i : Int) (str : ByteArray) : Good (s.write i str).2 n (m + 1) := by
  unfold DS.write
  dsimp only
  have ha := h.ask (thereB i s.held.length && ((str.size : Int) == 256))
  obtain ⟨e1, e2⟩ := ask_same s (thereB i s.held.length && ((str.size : Int) == 256))
  split
  · rename_i h0
    have hb := ask_ok s _ h0
    obtain ⟨hb1, hb2⟩ := Bool.and_eq_true_iff.1 hb
    obtain ⟨hi0, hi1⟩ := thereB_iff.1 hb1
    have hsz : str.size = 256 := by have := eq_of_beq hb2; omega
    refine ⟨ha.len, ha.all, ?_, ?_, ha.o0, ha.o1, ha.f0, ha.f1⟩
    · intro x hx
      rcases List.mem_append.1 hx with hx | hx
      · exact ha.pok x hx
      · rw [List.mem_singleton] at hx
        subst hx
        exact ⟨⟨hi0, by rw [h.len] at hi1; exact hi1⟩, hsz⟩
    · show ((s.ask _).2.pend ++ [_]).length ≤ m + 1
      rw [e2, List.length_append, List.length_singleton]
      have := h.pl; omega
  · exact ha
theorem comeAll_all {held : List ByteArray} {pend : List S43} (h : All256 held) (hp : ∀ x ∈ pend, x.f1.size = 256) : All256 (comeAll held pend) := by
  revert hp
  induction pend using list_snoc_induction with
  | nil => intro _; exact h
  | snoc pend x ih =>
    intro hp
    rw [comeAll_snoc]
    exact set_all (ih fun y hy => hp y (List.mem_append_left _ hy)) _ (hp x (List.mem_append_right _ List.mem_cons_self))
theorem Good.barrier (h : Good s n m) : Good s.barrier.2 n (m + 1) := by
  unfold DS.barrier
  dsimp only
  have ha := h.ask true
  split
  · exact ⟨by show (comeAll _ _).length = n; rw [comeAll_length]; exact ha.len, comeAll_all ha.all fun x hx => (ha.pok x hx).2, pend_nil n, Nat.zero_le _, ha.o0, ha.o1, ha.f0, ha.f1⟩
  · exact ha
theorem Good.arm (h : Good s n m) {k : Int} (hk : k ≤ 1000) : Good { s with fuse := max (-1) k } n (m + 1) :=
  ⟨h.len, h.all, h.pok, Nat.le_trans h.pl (Nat.le_succ m), h.o0, by have := h.o1; show s.ops ≤ ((m + 1 : Nat) : Int); omega, by show -1 ≤ max (-1) k; omega, by show max (-1) k ≤ 1000; omega⟩
theorem Good.boot (h : Good s n m) (cs : List Int) : Good (s.boot cs) n (m + 1) :=
  ⟨by show (fateAfter _ _ _ _ _).length = n; unfold fateAfter; rw [afterFold_length]; exact h.len, afterFold_all _ _ _ _ _ h.all, pend_nil n, Nat.zero_le _, h.o0, by have := h.o1; show s.ops ≤ ((m + 1 : Nat) : Int); omega, by show (-1 : Int) ≤ -1; omega, by show (-1 : Int) ≤ 1000; omega⟩
theorem Good.new (n : Nat) : Good (DS.new n) n 0 := ⟨List.length_replicate, blank_all n, pend_nil n, Nat.le_refl _, by show (0 : Int) ≤ 0; omega, by show (0 : Int) ≤ ((0 : Nat) : Int); omega, by show (-1 : Int) ≤ -1; omega, by show (-1 : Int) ≤ 1000; omega⟩
end

section
variable {G : List (Nat × Obj)} {w0 w : World} {d r : Nat} {sd sr : DS} {n m : Nat}
theorem two_write_d (h : Two G w0 w d r sd sr) (hg : Good sd n m) (hm : m ≤ 100000) {i : Int} {str : ByteArray} (hi : (Lit.int .i64 i).wf = true) (hstr : str.size ≤ 1000000) :
    Calls Try.prog 30 #[.pointer (some ⟨d, 0, none⟩), .int .i64 i, .string str] w fun x w' => x = .returned (.int .i64 (sd.write i str).1) ∧ Two G w0 w' d r (sd.write i str).2 sr := by
  obtain ⟨Fd, Fr, hD, hR, hne, h1, h2, h0, hG⟩ := h
  have := hg.pl; have := hg.o0; have := hg.o1; have := hg.f0; have := hg.f1
  refine (write_calls d Fd sd i str w hD hi hstr ⟨by omega, by omega⟩ ⟨by omega, by omega⟩ (by omega)).mono ?_
  rintro x w' ⟨rfl, hp⟩
  exact ⟨rfl, Two.stepD hR hne h1 h2 h0 hG hp⟩
theorem two_write_r (h : Two G w0 w d r sd sr) (hg : Good sr n m) (hm : m ≤ 100000) {i : Int} {str : ByteArray} :
    Calls Try.prog 39 #[.pointer (some ⟨r, 0, none⟩), .int .i64 i, .string str] w fun x w' => x = .returned (.int .i64 (sr.write i str).1) ∧ Two G w0 w' d r sd (sr.write i str).2 := by
  obtain ⟨Fd, Fr, hD, hR, hne, h1, h2, h0, hG⟩ := h
  have := hg.pl; have := hg.o0; have := hg.o1; have := hg.f0; have := hg.f1
  refine (refWrite_calls r Fr sr i str w hR ⟨by omega, by omega⟩ ⟨by omega, by omega⟩ (by omega)).mono ?_
  rintro x w' ⟨rfl, hp⟩
  exact ⟨rfl, Two.stepR hD hne h1 h2 h0 hG hp⟩
theorem two_read_d (h : Two G w0 w d r sd sr) (hg : Good sd n m) (hm : m ≤ 100000) {i : Int} (hi : (Lit.int .i64 i).wf = true) :
    Calls Try.prog 31 #[.pointer (some ⟨d, 0, none⟩), .int .i64 i] w fun x w' => x = .returned (.tuple #[.string (sd.read i).1, .int .i64 (sd.read i).2.1]) ∧ Two G w0 w' d r (sd.read i).2.2 sr := by
  obtain ⟨Fd, Fr, hD, hR, hne, h1, h2, h0, hG⟩ := h
  have := hg.pl; have := hg.o0; have := hg.o1; have := hg.f0; have := hg.f1
  refine (read_disk_calls d Fd sd i w hD hi ⟨by omega, by omega⟩ ⟨by omega, by omega⟩).mono ?_
  rintro x w' ⟨rfl, hp⟩
  exact ⟨rfl, Two.stepD hR hne h1 h2 h0 hG hp⟩
theorem two_read_r (h : Two G w0 w d r sd sr) (hg : Good sr n m) (hm : m ≤ 100000) {i : Int} :
    Calls Try.prog 38 #[.pointer (some ⟨r, 0, none⟩), .int .i64 i] w fun x w' => x = .returned (.tuple #[.string (sr.read i).1, .int .i64 (sr.read i).2.1]) ∧ Two G w0 w' d r sd (sr.read i).2.2 := by
  obtain ⟨Fd, Fr, hD, hR, hne, h1, h2, h0, hG⟩ := h
  have := hg.pl; have := hg.o0; have := hg.o1; have := hg.f0; have := hg.f1
  refine (refRead_disk_calls r Fr sr i w hR ⟨by omega, by omega⟩ ⟨by omega, by omega⟩ (by omega)).mono ?_
  rintro x w' ⟨rfl, hp⟩
  exact ⟨rfl, Two.stepR hD hne h1 h2 h0 hG hp⟩
theorem two_barrier_d (h : Two G w0 w d r sd sr) (hg : Good sd n m) (hm : m ≤ 100000) (hn : n ≤ 100000) :
    Calls Try.prog 32 #[.pointer (some ⟨d, 0, none⟩)] w fun x w' => x = .returned (.int .i64 sd.barrier.1) ∧ Two G w0 w' d r sd.barrier.2 sr := by
  obtain ⟨Fd, Fr, hD, hR, hne, h1, h2, h0, hG⟩ := h
  have := hg.pl; have := hg.o0; have := hg.o1; have := hg.f0; have := hg.f1; have hl := hg.len
  refine (barrier_calls d Fd sd w hD (by rw [hl]; exact hg.pok) (by omega) ⟨by omega, by omega⟩ ⟨by omega, by omega⟩).mono ?_
  rintro x w' ⟨rfl, hp⟩
  exact ⟨rfl, Two.stepD hR hne h1 h2 h0 hG hp⟩
theorem two_barrier_r (h : Two G w0 w d r sd sr) (hg : Good sr n m) (hm : m ≤ 100000) (hn : n ≤ 100000) :
    Calls Try.prog 40 #[.pointer (some ⟨r, 0, none⟩)] w fun x w' => x = .returned (.int .i64 sr.barrier.1) ∧ Two G w0 w' d r sd sr.barrier.2 := by
  obtain ⟨Fd, Fr, hD, hR, hne, h1, h2, h0, hG⟩ := h
  have := hg.pl; have := hg.o0; have := hg.o1; have := hg.f0; have := hg.f1; have hl := hg.len
  refine (refBarrier_calls r Fr sr w hR (by rw [hl]; exact hg.pok) (by omega) ⟨by omega, by omega⟩ ⟨by omega, by omega⟩ (by omega)).mono ?_
  rintro x w' ⟨rfl, hp⟩
  exact ⟨rfl, Two.stepR hD hne h1 h2 h0 hG hp⟩
theorem two_arm_d (h : Two G w0 w d r sd sr) (k : Int) :
    Calls Try.prog 28 #[.pointer (some ⟨d, 0, none⟩), .int .i64 k] w fun x w' => x = .returned (.tuple #[]) ∧ Two G w0 w' d r { sd with fuse := max (-1) k } sr := by
  obtain ⟨Fd, Fr, hD, hR, hne, h1, h2, h0, hG⟩ := h
  refine (arm_calls d Fd sd w k hD).mono ?_
  rintro x w' ⟨rfl, hp⟩
  exact ⟨rfl, Two.stepD hR hne h1 h2 h0 hG hp⟩
theorem two_arm_r (h : Two G w0 w d r sd sr) (k : Int) :
    Calls Try.prog 41 #[.pointer (some ⟨r, 0, none⟩), .int .i64 k] w fun x w' => x = .returned (.tuple #[]) ∧ Two G w0 w' d r sd { sr with fuse := max (-1) k } := by
  obtain ⟨Fd, Fr, hD, hR, hne, h1, h2, h0, hG⟩ := h
  refine (refArm_calls hR k).mono ?_
  rintro x w' ⟨rfl, hp⟩
  exact ⟨rfl, Two.stepR hD hne h1 h2 h0 hG hp⟩
theorem two_boot_d (h : Two G w0 w d r sd sr) (hg : Good sd n m) (hn : n ≤ 100000) {A : Option Addr} {c0 : Nat} {cs : List Int} (hcs : Kd.C (Kd.int .u8) w A cs.length cs) (hc0 : cs.length ≤ c0) (hby : Bytes cs) :
    Calls Try.prog 33 #[.pointer (some ⟨d, 0, none⟩), .slice A cs.length c0] w fun x w' => x = .returned (.tuple #[]) ∧ Two G w0 w' d r (sd.boot cs) sr := by
  obtain ⟨Fd, Fr, hD, hR, hne, h1, h2, h0, hG⟩ := h
  have hl := hg.len
  refine (boot_calls d Fd sd A c0 cs w hD hcs hc0 hby hg.all (by omega)).mono ?_
  rintro x w' ⟨rfl, hp⟩
  exact ⟨rfl, Two.stepD hR hne h1 h2 h0 hG hp⟩
theorem two_boot_r (h : Two G w0 w d r sd sr) (hg : Good sr n m) (hm : m ≤ 100000) (hn : n ≤ 100000) {A : Option Addr} {c0 : Nat} {cs : List Int} (hcs : Kd.C (Kd.int .u8) w A cs.length cs) (hby : Bytes cs) :
    Calls Try.prog 42 #[.pointer (some ⟨r, 0, none⟩), .slice A cs.length c0] w fun x w' => x = .returned (.tuple #[]) ∧ Two G w0 w' d r sd (sr.boot cs) := by
  obtain ⟨Fd, Fr, hD, hR, hne, h1, h2, h0, hG⟩ := h
  have := hg.pl; have hl := hg.len
  refine (refBoot_calls r Fr sr A c0 cs w hR hcs hby hg.all (by omega) (by omega)).mono ?_
  rintro x w' ⟨rfl, hp⟩
  exact ⟨rfl, Two.stepR hD hne h1 h2 h0 hG hp⟩
theorem two_off (h : Two G w0 w d r sd sr) : Calls Try.prog 34 #[.pointer (some ⟨d, 0, none⟩)] w fun e w' => e = .returned (.bool sd.off) ∧ w' = w := by obtain ⟨Fd, _, hD, _⟩ := h; exact off_calls d Fd sd w hD
theorem two_ops (h : Two G w0 w d r sd sr) : Calls Try.prog 43 #[.pointer (some ⟨d, 0, none⟩)] w fun e w' => e = .returned (.int .i64 sd.ops) ∧ w' = w := by obtain ⟨Fd, _, hD, _⟩ := h; exact ops_calls d Fd sd w hD
theorem two_pending (h : Two G w0 w d r sd sr) : Calls Try.prog 35 #[.pointer (some ⟨d, 0, none⟩)] w fun e w' => e = .returned (.int .i64 sd.pend.length) ∧ w' = w := by obtain ⟨Fd, _, hD, _⟩ := h; exact pending_calls d Fd sd w hD
theorem two_sectors (h : Two G w0 w d r sd sr) (hg : Good sd n m) : Calls Try.prog 44 #[.pointer (some ⟨d, 0, none⟩)] w fun e w' => e = .returned (.int .i64 n) ∧ w' = w := by
  obtain ⟨Fd, _, hD, _⟩ := h
  have := sectors_calls d Fd sd w hD
  rwa [hg.len] at this
/-- The cells of the document's disk. -/
theorem two_cells (h : Two G w0 w d r sd sr) : ∃ A c vh, w.cell? ⟨r, 1, none⟩ = some (.slice A sr.pend.length c) ∧ w.cell? ⟨r, 2, none⟩ = some (.bool sr.off) ∧ w.cell? ⟨r, 5, none⟩ = some (.int .i64 sr.ops) ∧ w.cell? ⟨r, 0, none⟩ = some vh ∧ (∃ Ah ch, vh = .slice Ah sr.held.length ch ∧ Kd.C Kd.string w Ah sr.held.length sr.held) := by
  obtain ⟨_, _, _, ⟨vh, vp, armed, fz, hd, hr⟩, _⟩ := h
  obtain ⟨A, c, rfl⟩ := Kd.R_len hr.rp
  obtain ⟨Ah, ch, rfl, _, hC⟩ := Kd.R_reads hr.rh
  exact ⟨A, c, _, hd.cell 1, hd.cell 2, hd.cell 5, hd.cell 0, Ah, ch, rfl, hC⟩
end

/-- An act, as it is drawn. -/
structure A73 where
  what : Int
  sec : Int
  letter : Int
  n : Int
  ch : List Int
def A73.In (x : A73) : Prop := (0 ≤ x.what ∧ x.what < 256) ∧ (-32768 ≤ x.sec ∧ x.sec < 32768) ∧ (0 ≤ x.letter ∧ x.letter < 256) ∧ (-128 ≤ x.n ∧ x.n < 128) ∧ Bytes x.ch
def ActAt (w : World) (ad : Addr) (x : A73) : Prop :=
  w.cell? ad = some (.int .u8 x.what) ∧ w.cell? ⟨ad.block, ad.off + 1, none⟩ = some (.int .i16 x.sec) ∧ w.cell? ⟨ad.block, ad.off + 2, none⟩ = some (.int .u8 x.letter) ∧ w.cell? ⟨ad.block, ad.off + 3, none⟩ = some (.int .i8 x.n) ∧
    ∃ A c, w.cell? ⟨ad.block, ad.off + 4, none⟩ = some (.slice A x.ch.length c) ∧ x.ch.length ≤ c ∧ Kd.C (Kd.int .u8) w A x.ch.length x.ch
def ActsAt (w : World) (A : Option Addr) (L : List A73) : Prop := ∀ j x, L[j]? = some x → ∃ ad, A = some ad ∧ ActAt w (ad.add (j * 5)) x
theorem ActsAt.below {w w' : World} {A : Option Addr} {L : List A73} (h : ActsAt w A L) (hb : Below w.heap.size w w') : ActsAt w' A L := by
  intro j x hx
  obtain ⟨ad, hA, h0, h1, h2, h3, Ac, c, h4, hl, hC⟩ := h j x hx
  have hlt := World.block_lt_of_cell? _ _ h0
  exact ⟨ad, hA, (hb.cell hlt).trans h0, (hb.cell (p := ⟨(ad.add (j * 5)).block, _, none⟩) hlt).trans h1, (hb.cell (p := ⟨(ad.add (j * 5)).block, _, none⟩) hlt).trans h2, (hb.cell (p := ⟨(ad.add (j * 5)).block, _, none⟩) hlt).trans h3, Ac, c, (hb.cell (p := ⟨(ad.add (j * 5)).block, _, none⟩) hlt).trans h4, hl, Kd.C_below hC hb⟩
end Go.Proofs.Ytknibnbepmdapaa
