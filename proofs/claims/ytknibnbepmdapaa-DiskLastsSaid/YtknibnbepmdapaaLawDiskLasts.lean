/- DiskLasts: what was written ahead of a Barrier lasts; of the rest each sector is whole, but for one that is torn; of all writes, fuses and choices: it returns true, without a condition. -/
import Derived.Test.YtknibnbepmdapaaRows
import Derived.Test.YtknibnbepmdapaaQe
import Derived.Lib.SmallJoins
import Derived.Deep.Slices
import Derived.Deep.Strs
import Derived.WalkKit
import Derived.ProofKit
import Derived.OpenShut
import Derived.ShutString
import Derived.ChangeOld
import Derived.Below
import Derived.SizedLaws
namespace Go.Proofs.Ytknibnbepmdapaa.diskLasts
open Go.ChangeShapes Go.WideShapes Go.ChangeAt Go.RowKit Go.Joins Go.Deep
open Go.Proofs.YtknibnbepmdapaaW.PrintWords (Kd)
set_option linter.unusedVariables false
theorem own : ownKnob Try.prog.godebug = none := by kernel_rfl
theorem laidOut : laidOutB Try.prog = true := by kernel_rfl

section
variable {H : Type} {enc : TypeId × Value → H} {w : World} {base : Nat} {held : Bool}
theorem cells57 : Try.prog.cellsOf 57 = 3 := by kernel_rfl
theorem cells5 : Try.prog.cellsOf 5 = 1 := by kernel_rfl
theorem cells4 : Try.prog.cellsOf 4 = 1 := by kernel_rfl
theorem drop_one (cs : List Value) (j : Nat) (h : j < cs.length) : (cs.drop j).take 1 = [cs[j]] := by rw [List.drop_eq_getElem_cons h]; rfl

theorem put_cells {n : Nat} {cs : List Value} {x : DataW H × List MemPlace} (h : DataW.trod enc Try.prog w base (fun _ => true) held n 57 cs = some x) :
    ∃ y : P57, y.In ∧ cs = [.int .u8 y.sec, .int .u8 y.letter, .bool y.bar] := by
  obtain ⟨y0, y1, y2, m, _, hl, h0, h1, h2⟩ := trod_struct3 Try.underlying57 h
  rw [cells57] at hl
  rw [cells5, drop_one cs 0 (by omega)] at h0
  rw [cells5, drop_one cs 1 (by omega)] at h1
  rw [cells4, drop_one cs 2 (by omega)] at h2
  obtain ⟨a, ea, _, wa⟩ := DataW.trod_int Try.underlying5 h0
  obtain ⟨b, eb, _, wb⟩ := DataW.trod_int Try.underlying5 h1
  obtain ⟨c, ec, _⟩ := DataW.trod_bool Try.underlying4 h2
  match cs, hl, ea, eb, ec with
  | [c0, c1, c2], _, ea, eb, ec =>
    simp only [List.getElem_cons_zero, List.getElem_cons_succ, List.cons.injEq, and_true] at ea eb ec
    subst ea eb ec
    have := bounds_u8 wa
    have := bounds_u8 wb
    exact ⟨⟨a, b, c⟩, ⟨⟨by show 0 ≤ a; omega, by show a < 256; omega⟩, by show 0 ≤ b; omega, by show b < 256; omega⟩, rfl⟩

theorem open_puts {fuel : Nat} {v : Value} {x : DataW H × List MemPlace} (h : DataW.trod enc Try.prog w base (fun _ => true) held fuel 51 [v] = some x) :
    ∃ (A : Option Addr) (l : List P57) (c : Nat), v = .slice A l.length c ∧ PutsAt w A l ∧ l.length ≤ c ∧ (∀ y ∈ l, y.In) ∧ l.length ≤ 9223372036854775807 := by
  rcases open_slice Try.underlying51 h with ⟨hcs, _⟩ | ⟨a, len, cap, m, n, D, Pl, hcs, _, hl, hm, hmm, _, hi⟩
  · obtain rfl : v = .slice none 0 0 := by simpa using hcs
    exact ⟨none, [], 0, rfl, (fun j x hx => by simp at hx), Nat.le_refl _, (fun y hy => by cases hy), by decide⟩
  · obtain rfl : v = .slice (some a) len cap := by simpa using hcs
    simp only [if_true] at hmm
    haveI : Inhabited P57 := ⟨⟨0, 0, false⟩⟩
    obtain ⟨Y, hY⟩ := choose_lt (α := P57) (p := fun i y => y.In ∧ PutAt w (a.add (i * 3)) y) (n := len) (fun i hil => by
      obtain ⟨cs', hc, ht⟩ := hi i (by omega)
      obtain ⟨y, hy, rfl⟩ := put_cells ht
      rw [cells57] at hc
      obtain ⟨_, _, hat⟩ := World.cells?_some hc
      have hcell : ∀ j (u : Value), [Value.int .u8 y.sec, .int .u8 y.letter, .bool y.bar][j]? = some u → w.cell? (a.add (i * 3 + j)) = some u := fun j u hu => by
        have hj3 : j < 3 := (List.getElem?_eq_some_iff.1 hu).1
        rw [← Go.Deep.add_add, hat j hj3, hu]
      refine ⟨y, hy, hcell 0 _ rfl, ?_, ?_⟩
      · rw [← YtknibnbepmdapaaW.PrintWords.add_field _ _ 1 (by omega)]; exact hcell 1 _ rfl
      · rw [← YtknibnbepmdapaaW.PrintWords.add_field _ _ 2 (by omega)]; exact hcell 2 _ rfl)
    refine ⟨some a, (List.range len).map Y, cap, by simp, (fun j p hj => ?_), by simpa using hl, (fun y hy => ?_), by unfold maxLen at hm; simp; omega⟩
    · have hjl : j < len := by have := (List.getElem?_eq_some_iff.1 hj).1; simpa using this
      have hp : p = Y j := by simp [hjl] at hj; exact hj.symm
      subst hp
      exact ⟨a, rfl, (hY j hjl).2⟩
    · obtain ⟨j, hj, rfl⟩ := List.mem_map.1 hy
      exact (hY j (List.mem_range.1 hj)).1
end
def IsRow (k : IntKind) (w : World) (a : Option Addr) (len cap : Nat) (zs : List Int) : Prop :=
  (a = none ∧ len = 0 ∧ cap = 0 ∧ zs = []) ∨
  ∃ x, a = some x ∧ len ≤ cap ∧ cap ≤ maxLen ∧ zs.length = cap ∧ (∀ i, i < zs.length → w.cell? (x.add i) = some (.int k (zs.getD i 0))) ∧ ∀ n ∈ zs, (Lit.int k n).wf = true

set_option maxRecDepth 100000 in
theorem lifted (os : Os) (started : os.Started) (H : Type) (enc : TypeId × Value → H) :
    ReturnsInHanded {} Try.checked os 10 .any (Rows.diskLastsSpec.pre6 enc Try.prog Try.f10 Rows.diskLastsRow.domain false) (Rows.diskLastsSpec.post enc Try.prog Try.f10 false true false false) := by
  refine returnsInHanded_of_change_sized (C := Try.checked) own started (by kernel_rfl) Try.func10
    (ChangeSpec.witness6 (enc := enc) (C := Try.checked) false ⟨#[], #[.slice none 0 0, .int .u8 0, .slice none 0 0], []⟩ 8 (by kernel_rfl) (by kernel_rfl) (by kernel_rfl) (by kernel_rfl)) ?_
  intro W base args ds gs before hval0 hW hcnd hsz0 _
  have hval : ∀ (j : Nat) t v, Try.f10.params[j]? = some t → args[j]? = some v → Value.okWide Try.prog W .any base t v := hval0
  have hW' := hW
  obtain ⟨p, q, hA0, hV, rfl, hfz, hnd⟩ := hW
  have hA : DataW.TrodAll enc Try.prog W 0 (fun _ => true) true Try.f10.params.toList args.toList ds p := hA0
  rw [Try.params10] at hA hval
  obtain ⟨v0, vs0, d0, ds0, p0, q0, hargs, rfl, rfl, h0, r0⟩ := trodAll_cons hA
  obtain ⟨v1, vs1, d1, ds1, p1, q1, rfl, rfl, rfl, h1, r1⟩ := trodAll_cons r0
  obtain ⟨v2, vs2, d2, ds2, p2, q2, rfl, rfl, rfl, h2, r2⟩ := trodAll_cons r1
  obtain ⟨rfl, rfl, rfl⟩ := trodAll_nil r2
  obtain rfl : args = #[v0, v1, v2] := by cases args; simp_all
  obtain ⟨rfl, rfl⟩ := trodVars_none hV
  have k0 := h0
  have lt0 : ∀ x ∈ p0, x.block < W.heap.size := by obtain ⟨m, hm⟩ := k0; exact DataW.trod_lt m _ _ _ hm
  obtain ⟨A0, L0, c0, rfl, hC0, hc0, hL0, hm0⟩ : ∃ (A : Option Addr) (l : List P57) (c : Nat), v0 = .slice A l.length c ∧ PutsAt W A l ∧ l.length ≤ c ∧ (∀ y ∈ l, y.In) ∧ l.length ≤ 9223372036854775807 := by
    obtain ⟨b0, l0, c0, rfl⟩ := okWide_slice Try.underlying51 (hval 0 51 v0 rfl rfl)
    obtain ⟨fuel, hf⟩ := h0
    exact open_puts hf
  obtain ⟨n, rfl, rfl, rfl, w1⟩ := open_int Try.underlying5 (hval 1 5 v1 rfl rfl) h1
  have k2 := h2
  have lt2 : ∀ x ∈ p2, x.block < W.heap.size := by obtain ⟨m, hm⟩ := k2; exact DataW.trod_lt m _ _ _ hm
  obtain ⟨a2, len2, cap2, rfl⟩ := okWide_slice Try.underlying25 (hval 2 25 v2 rfl rfl)
  obtain ⟨z2, w2⟩ : ∃ zs, IsRow .u8 W a2 len2 cap2 zs := by
    obtain ⟨fuel, hf⟩ := h2
    rcases open_ints Try.underlying25 Try.underlying5 (by kernel_rfl) hf with ⟨hcs, _⟩ | ⟨x, l, c, zs, hcs, _, hl, hm, hz, _, hcell, hwz⟩
    · simp [Value.cells] at hcs
      obtain ⟨rfl, rfl, rfl⟩ := hcs
      exact ⟨[], .inl ⟨rfl, rfl, rfl, rfl⟩⟩
    · simp [Value.cells] at hcs
      obtain ⟨rfl, rfl, rfl⟩ := hcs
      exact ⟨zs, .inr ⟨_, rfl, hl, hm, by simpa using hz, hcell, hwz⟩⟩
  clear hA0 hval0 hsz0
  obtain ⟨l2, rfl, hr2, hm2, hw2, hcc2⟩ := YtknibnbepmdapaaW.PrintWords.ReadsInt.ofRowC w2
  have hfu := bounds_u8 w1
  have hbody : Calls Try.prog 10 #[.slice A0 L0.length c0, .int .u8 n, .slice a2 l2.length cap2] W fun e w' => e = .returned (.bool true) ∧ Below W.heap.size W w' :=
    (callsIn_wide (n := 9)).1 (lasts_in A0 c0 L0 n a2 cap2 l2 W hC0 hL0 hm0 ⟨by omega, by omega⟩ (YtknibnbepmdapaaW.PrintWords.Kd.C_of_reads hr2) hcc2 (fun x hx => by have := bounds_u8 (hw2 x hx); omega))
  refine hbody.mono fun e W' ⟨he, bel⟩ => ?_
  subst he
  exact ⟨_, rfl, _, _, _, [], _, [], hW', trodAll_mk1 (shut_bool Try.underlying4 _), (trodAll_cons_mk (Below.trod laidOut (by kernel_rfl) (of_decide_eq_true (by kernel_rfl)) k0 bel lt0) (trodAll_cons_mk (shut_int Try.underlying5 w1) (trodAll_cons_mk (Below.trod laidOut (by kernel_rfl) (of_decide_eq_true (by kernel_rfl)) k2 bel lt2) trodAll_mk0))), rfl, bel.frame _, fun h => by cases h⟩
theorem over : Rows.diskLastsRow.holds Try.pinned (OpenSpec.ofChange Rows.diskLastsSpec) :=
  OpenClaim.holds_of_wide 10 Try.f10 rfl rfl rfl rfl rfl rfl rfl ⟨rfl, rfl, rfl, rfl, rfl⟩ rfl rfl rfl rfl rfl (by kernel_rfl) Try.func10 (by kernel_rfl)
    (of_decide_eq_true (by kernel_rfl)) (by unfold Func.isWrapper; first | (rw [if_pos (by decide +kernel)]; kernel_rfl) | (rw [if_neg (by decide +kernel)]; exact ⟨rfl, rfl⟩))
    (fun os started H enc _ => lifted os started H enc)
theorem proved : Rows.DiskLastsSaid := over
#print axioms proved
end Go.Proofs.Ytknibnbepmdapaa.diskLasts
namespace Go.Proofs.Ytknibnbepmdapaa
/-- The row, under a short name, for the claim. -/
theorem diskLasts_holds : Rows.DiskLastsSaid := diskLasts.proved
end Go.Proofs.Ytknibnbepmdapaa
