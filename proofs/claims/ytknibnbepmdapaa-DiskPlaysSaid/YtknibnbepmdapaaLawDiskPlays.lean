/- DiskPlays: whatever is done with a disk, wherever its power goes, what is answered is as the document says, of all sizes and acts: it returns true, without a condition. -/
import Derived.Test.YtknibnbepmdapaaRows
import Derived.Test.YtknibnbepmdapaaEf
import Derived.Lib.SmallJoins
import Derived.Deep.Slices
import Derived.WalkKit
import Derived.ProofKit
import Derived.OpenShut
import Derived.ShutString
import Derived.ChangeOld
import Derived.Below
import Derived.SizedLaws
namespace Go.Proofs.Ytknibnbepmdapaa.diskPlays
open Go.ChangeShapes Go.WideShapes Go.ChangeAt Go.RowKit Go.Joins Go.Deep
open Go.Proofs.YtknibnbepmdapaaW.PrintWords (Kd)
set_option linter.unusedVariables false
theorem own : ownKnob Try.prog.godebug = none := by kernel_rfl
theorem laidOut : laidOutB Try.prog = true := by kernel_rfl

section
variable {H : Type} {enc : TypeId × Value → H} {w : World} {base : Nat} {held : Bool}
theorem cells73 : Try.prog.cellsOf 73 = 5 := by kernel_rfl
theorem cells5 : Try.prog.cellsOf 5 = 1 := by kernel_rfl
theorem cells70 : Try.prog.cellsOf 70 = 1 := by kernel_rfl
theorem cells71 : Try.prog.cellsOf 71 = 1 := by kernel_rfl
theorem cells25 : Try.prog.cellsOf 25 = 1 := by kernel_rfl
theorem drop_one (cs : List Value) (j : Nat) (h : j < cs.length) : (cs.drop j).take 1 = [cs[j]] := by rw [List.drop_eq_getElem_cons h]; rfl

theorem act_cells {n : Nat} {cs : List Value} {x : DataW H × List MemPlace} (h : DataW.trod enc Try.prog w base (fun _ => true) held n 73 cs = some x) :
    ∃ y : A73, y.In ∧ ∃ (A : Option Addr) (c : Nat), cs = [.int .u8 y.what, .int .i16 y.sec, .int .u8 y.letter, .int .i8 y.n, .slice A y.ch.length c] ∧ y.ch.length ≤ c ∧ Kd.C (Kd.int .u8) w A y.ch.length y.ch := by
  obtain ⟨xs, m, _, _, hl, hlen, hf⟩ := DataW.trod_struct Try.underlying73 h
  rw [cells73] at hl
  have g0 : DataW.trod enc Try.prog w base (fun _ => true) held m 5 ((cs.drop 0).take (Try.prog.cellsOf 5)) = xs[0]? := hf 0 _ rfl
  have g1 : DataW.trod enc Try.prog w base (fun _ => true) held m 70 ((cs.drop 1).take (Try.prog.cellsOf 70)) = xs[1]? := hf 1 _ rfl
  have g2 : DataW.trod enc Try.prog w base (fun _ => true) held m 5 ((cs.drop 2).take (Try.prog.cellsOf 5)) = xs[2]? := hf 2 _ rfl
  have g3 : DataW.trod enc Try.prog w base (fun _ => true) held m 71 ((cs.drop 3).take (Try.prog.cellsOf 71)) = xs[3]? := hf 3 _ rfl
  have g4 : DataW.trod enc Try.prog w base (fun _ => true) held m 25 ((cs.drop 4).take (Try.prog.cellsOf 25)) = xs[4]? := hf 4 _ rfl
  rw [cells5, drop_one cs 0 (by omega)] at g0
  rw [cells70, drop_one cs 1 (by omega)] at g1
  rw [cells5, drop_one cs 2 (by omega)] at g2
  rw [cells71, drop_one cs 3 (by omega)] at g3
  rw [cells25, drop_one cs 4 (by omega)] at g4
  match xs, hlen with
  | [x0, x1, x2, x3, x4], _ =>
    obtain ⟨a, ea, _, wa⟩ := DataW.trod_int Try.underlying5 g0
    obtain ⟨b, eb, _, wb⟩ := DataW.trod_int Try.underlying70 g1
    obtain ⟨l, el, _, wl⟩ := DataW.trod_int Try.underlying5 g2
    obtain ⟨k, ek, _, wk⟩ := DataW.trod_int Try.underlying71 g3
    obtain ⟨A, ln, cp, zs, ev, hz⟩ : ∃ (A : Option Addr) (ln cp : Nat) (zs : List Int), [cs[4]] = [Value.slice A ln cp] ∧ ((A = none ∧ ln = 0 ∧ cp = 0 ∧ zs = []) ∨ ∃ x, A = some x ∧ ln ≤ cp ∧ cp ≤ maxLen ∧ zs.length = cp ∧ (∀ i, i < zs.length → w.cell? (x.add i) = some (.int .u8 (zs.getD i 0))) ∧ ∀ n ∈ zs, (Lit.int .u8 n).wf = true) := by
      rcases open_ints Try.underlying25 Try.underlying5 cells5 g4 with ⟨hcs, _⟩ | ⟨x, l, c, zs, hcs, _, hl, hm, hz, _, hcell, hwz⟩
      · exact ⟨none, 0, 0, [], hcs, .inl ⟨rfl, rfl, rfl, rfl⟩⟩
      · exact ⟨some x, l, c, zs, hcs, .inr ⟨x, rfl, hl, hm, by simpa using hz, hcell, hwz⟩⟩
    obtain ⟨ch, rfl, hrc, _, hwc, hcc⟩ := YtknibnbepmdapaaW.PrintWords.ReadsInt.ofRowC hz
    match cs, hl, ea, eb, el, ek, ev with
    | [c0, c1, c2, c3, c4], _, ea, eb, el, ek, ev =>
      simp only [List.getElem_cons_zero, List.getElem_cons_succ, List.cons.injEq, and_true] at ea eb el ek ev
      subst ea eb el ek ev
      have ha := bounds_u8 wa
      have hb := bounds_i16 wb
      have hl := bounds_u8 wl
      have hk := bounds_i8 wk
      exact ⟨⟨a, b, l, k, ch⟩, ⟨⟨by show 0 ≤ a; omega, by show a < 256; omega⟩, ⟨by show -32768 ≤ b; omega, by show b < 32768; omega⟩, ⟨by show 0 ≤ l; omega, by show l < 256; omega⟩, ⟨by show -128 ≤ k; omega, by show k < 128; omega⟩, fun x hx => by have := bounds_u8 (hwc x hx); omega⟩, A, cp, rfl, hcc, YtknibnbepmdapaaW.PrintWords.Kd.C_of_reads hrc⟩

theorem open_acts {fuel : Nat} {v : Value} {x : DataW H × List MemPlace} (h : DataW.trod enc Try.prog w base (fun _ => true) held fuel 67 [v] = some x) :
    ∃ (A : Option Addr) (l : List A73) (c : Nat), v = .slice A l.length c ∧ ActsAt w A l ∧ l.length ≤ c ∧ (∀ y ∈ l, y.In) ∧ l.length ≤ 9223372036854775807 := by
  rcases open_slice Try.underlying67 h with ⟨hcs, _⟩ | ⟨a, len, cap, m, n, D, Pl, hcs, _, hl, hm, hmm, _, hi⟩
  · obtain rfl : v = .slice none 0 0 := by simpa using hcs
    exact ⟨none, [], 0, rfl, (fun j x hx => by simp at hx), Nat.le_refl _, (fun y hy => by cases hy), by decide⟩
  · obtain rfl : v = .slice (some a) len cap := by simpa using hcs
    simp only [if_true] at hmm
    haveI : Inhabited A73 := ⟨⟨0, 0, 0, 0, []⟩⟩
    obtain ⟨Y, hY⟩ := choose_lt (α := A73) (p := fun i y => y.In ∧ ActAt w (a.add (i * 5)) y) (n := len) (fun i hil => by
      obtain ⟨cs', hc, ht⟩ := hi i (by omega)
      obtain ⟨y, hy, A, c, rfl, hyc, hyC⟩ := act_cells ht
      rw [cells73] at hc
      obtain ⟨_, _, hat⟩ := World.cells?_some hc
      have hcell : ∀ j (u : Value), [Value.int .u8 y.what, .int .i16 y.sec, .int .u8 y.letter, .int .i8 y.n, .slice A y.ch.length c][j]? = some u → w.cell? (a.add (i * 5 + j)) = some u := fun j u hu => by
        have hj5 : j < 5 := (List.getElem?_eq_some_iff.1 hu).1
        rw [← Go.Deep.add_add, hat j hj5, hu]
      refine ⟨y, hy, hcell 0 _ rfl, ?_, ?_, ?_, A, c, ?_, hyc, hyC⟩
      · rw [← YtknibnbepmdapaaW.PrintWords.add_field _ _ 1 (by omega)]; exact hcell 1 _ rfl
      · rw [← YtknibnbepmdapaaW.PrintWords.add_field _ _ 2 (by omega)]; exact hcell 2 _ rfl
      · rw [← YtknibnbepmdapaaW.PrintWords.add_field _ _ 3 (by omega)]; exact hcell 3 _ rfl
      · rw [← YtknibnbepmdapaaW.PrintWords.add_field _ _ 4 (by omega)]; exact hcell 4 _ rfl)
    refine ⟨some a, (List.range len).map Y, cap, by simp, (fun j p hj => ?_), by simpa using hl, (fun y hy => ?_), by unfold maxLen at hm; simp; omega⟩
    · have hjl : j < len := by have := (List.getElem?_eq_some_iff.1 hj).1; simpa using this
      have hp : p = Y j := by simp [hjl] at hj; exact hj.symm
      subst hp
      exact ⟨a, rfl, (hY j hjl).2⟩
    · obtain ⟨j, hj, rfl⟩ := List.mem_map.1 hy
      exact (hY j (List.mem_range.1 hj)).1
end

set_option maxRecDepth 100000 in
theorem lifted (os : Os) (started : os.Started) (H : Type) (enc : TypeId × Value → H) :
    ReturnsInHanded {} Try.checked os 11 .any (Rows.diskPlaysSpec.pre6 enc Try.prog Try.f11 Rows.diskPlaysRow.domain false) (Rows.diskPlaysSpec.post enc Try.prog Try.f11 false true false false) := by
  refine returnsInHanded_of_change_sized (C := Try.checked) own started (by kernel_rfl) Try.func11
    (ChangeSpec.witness6 (enc := enc) (C := Try.checked) false ⟨#[], #[.int .i64 0, .slice none 0 0], []⟩ 8 (by kernel_rfl) (by kernel_rfl) (by kernel_rfl) (by kernel_rfl)) ?_
  intro W base args ds gs before hval0 hW hcnd hsz0 _
  have hval : ∀ (j : Nat) t v, Try.f11.params[j]? = some t → args[j]? = some v → Value.okWide Try.prog W .any base t v := hval0
  have hW' := hW
  obtain ⟨p, q, hA0, hV, rfl, hfz, hnd⟩ := hW
  have hA : DataW.TrodAll enc Try.prog W 0 (fun _ => true) true Try.f11.params.toList args.toList ds p := hA0
  rw [Try.params11] at hA hval
  obtain ⟨v0, vs0, d0, ds0, p0, q0, hargs, rfl, rfl, h0, r0⟩ := trodAll_cons hA
  obtain ⟨v1, vs1, d1, ds1, p1, q1, rfl, rfl, rfl, h1, r1⟩ := trodAll_cons r0
  obtain ⟨rfl, rfl, rfl⟩ := trodAll_nil r1
  obtain rfl : args = #[v0, v1] := by cases args; simp_all
  obtain ⟨rfl, rfl⟩ := trodVars_none hV
  obtain ⟨n, rfl, rfl, rfl, w0⟩ := open_int Try.underlying3 (hval 0 3 v0 rfl rfl) h0
  have k1 := h1
  have lt1 : ∀ x ∈ p1, x.block < W.heap.size := by obtain ⟨m, hm⟩ := k1; exact DataW.trod_lt m _ _ _ hm
  obtain ⟨A1, L1, c1, rfl, hC1, hc1, hL1, hm1⟩ : ∃ (A : Option Addr) (l : List A73) (c : Nat), v1 = .slice A l.length c ∧ ActsAt W A l ∧ l.length ≤ c ∧ (∀ y ∈ l, y.In) ∧ l.length ≤ 9223372036854775807 := by
    obtain ⟨b0, l0, c0, rfl⟩ := okWide_slice Try.underlying67 (hval 1 67 v1 rfl rfl)
    obtain ⟨fuel, hf⟩ := h1
    exact open_acts hf
  clear hA0 hval0 hsz0
  have hbody : Calls Try.prog 11 #[.int .i64 n, .slice A1 L1.length c1] W fun e w' => e = .returned (.bool true) ∧ Below W.heap.size W w' := by
    rcases (by omega : (n < 64 ∨ 1024 < n) ∨ (64 ≤ n ∧ n ≤ 1024)) with hn | ⟨hn1, hn2⟩
    · exact (callsIn_wide (n := 9)).1 (plays_none n hn _ W)
    · obtain ⟨k, rfl⟩ := Int.eq_ofNat_of_zero_le (show 0 ≤ n by omega)
      exact (callsIn_wide (n := 9)).1 (plays_some k ⟨by omega, by omega⟩ A1 c1 L1 W hC1 hL1 hm1)
  refine hbody.mono fun e W' ⟨he, bel⟩ => ?_
  subst he
  exact ⟨_, rfl, _, _, _, [], _, [], hW', trodAll_mk1 (shut_bool Try.underlying4 _), (trodAll_cons_mk (shut_int Try.underlying3 w0) (trodAll_cons_mk (Below.trod laidOut (by kernel_rfl) (of_decide_eq_true (by kernel_rfl)) k1 bel lt1) trodAll_mk0)), rfl, bel.frame _, fun h => by cases h⟩
theorem over : Rows.diskPlaysRow.holds Try.pinned (OpenSpec.ofChange Rows.diskPlaysSpec) :=
  OpenClaim.holds_of_wide 11 Try.f11 rfl rfl rfl rfl rfl rfl rfl ⟨rfl, rfl, rfl, rfl, rfl⟩ rfl rfl rfl rfl rfl (by kernel_rfl) Try.func11 (by kernel_rfl)
    (of_decide_eq_true (by kernel_rfl)) (by unfold Func.isWrapper; first | (rw [if_pos (by decide +kernel)]; kernel_rfl) | (rw [if_neg (by decide +kernel)]; exact ⟨rfl, rfl⟩))
    (fun os started H enc _ => lifted os started H enc)
theorem proved : Rows.DiskPlaysSaid := over
#print axioms proved
end Go.Proofs.Ytknibnbepmdapaa.diskPlays
namespace Go.Proofs.Ytknibnbepmdapaa
/-- The row, under a short name, for the claim. -/
theorem diskPlays_holds : Rows.DiskPlaysSaid := diskPlays.proved
end Go.Proofs.Ytknibnbepmdapaa
