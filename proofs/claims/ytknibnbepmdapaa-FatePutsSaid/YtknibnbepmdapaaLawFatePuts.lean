/- FatePuts: the choices of any fate are as the document says, of all fates and those that choices tell. -/
import Derived.Test.YtknibnbepmdapaaRows
import Derived.Test.YtknibnbepmdapaaJb
import Derived.Lib.SmallJoins
import Derived.Deep.Grids
import Derived.WalkKit
import Derived.ProofKit
import Derived.OpenShut
import Derived.ShutString
import Derived.ChangeOld
import Derived.Below
import Derived.SizedLaws
import Derived.Test.YtknibnbepmdapaaWSized
namespace Go.Proofs.Ytknibnbepmdapaa.fatePuts
open Go.ChangeShapes Go.WideShapes Go.ChangeAt Go.RowKit Go.Joins Go.Deep
open Go.Proofs.YtknibnbepmdapaaW.PrintWords (Kd)
open Go.ChangeMaps (open_string shut_string)
set_option linter.unusedVariables false
theorem own : ownKnob Try.prog.godebug = none := by kernel_rfl
theorem laidOut : laidOutB Try.prog = true := by kernel_rfl
def IsRow (k : IntKind) (w : World) (a : Option Addr) (len cap : Nat) (zs : List Int) : Prop :=
  (a = none ∧ len = 0 ∧ cap = 0 ∧ zs = []) ∨
  ∃ x, a = some x ∧ len ≤ cap ∧ cap ≤ maxLen ∧ zs.length = cap ∧ (∀ i, i < zs.length → w.cell? (x.add i) = some (.int k (zs.getD i 0))) ∧ ∀ n ∈ zs, (Lit.int k n).wf = true
open Go.Proofs.YtknibnbepmdapaaW.PrintWords in
theorem bools_read {w : World} {x : Addr} (B : Nat → Bool) (l : Nat) (hm : l ≤ 9223372036854775807) (hcell : ∀ i, i < l → w.cell? (x.add i) = some (.bool (B i))) : Kd.C Kd.bool w (some x) ((List.range l).map B).length ((List.range l).map B) := by
  refine ⟨rfl, by simpa using hm, fun _ => ⟨x, rfl, fun j p hj => ⟨[.bool p], rfl, rfl, fun i u hu => ?_⟩⟩⟩
  match i, hu with
  | 0, hu =>
    simp at hu
    subst hu
    have hjl : j < l := by have := (List.getElem?_eq_some_iff.1 hj).1; simpa using this
    rw [show j * Kd.bool.sz + 0 = j from by show j * 1 + 0 = j; omega, hcell j hjl]
    simp [hjl] at hj
    rw [hj]
  | i + 1, hu => simp at hu

set_option maxRecDepth 100000 in
theorem lifted (os : Os) (started : os.Started) (H : Type) (enc : TypeId × Value → H) :
    ReturnsInHanded {} Try.checked os 3 .any (Rows.fatePutsSpec.pre6 enc Try.prog Try.f3 Rows.fatePutsRow.domain false) (Rows.fatePutsSpec.post enc Try.prog Try.f3 false true false false) := by
  refine returnsInHanded_of_change_sized (C := Try.checked) own started (by kernel_rfl) Try.func3
    (ChangeSpec.witness6 (enc := enc) (C := Try.checked) false ⟨#[], #[.agg #[.slice none 0 0, .int .i64 0, .int .i64 0], .slice none 0 0, .int .u8 0], []⟩ 8 (by kernel_rfl) (by kernel_rfl) (by kernel_rfl) (by kernel_rfl)) ?_
  intro W base args ds gs before hval0 hW hcnd hsz0 _
  have hsz : (DataW.weightsEach Try.prog (Try.f3.params.toList ++ Rows.fatePutsSpec.plain.varTypes Try.prog) (ds ++ gs)).all (· ≤ reachBytes) = true := hsz0
  have hval : ∀ (j : Nat) t v, Try.f3.params[j]? = some t → args[j]? = some v → Value.okWide Try.prog W .any base t v := hval0
  have hW' := hW
  obtain ⟨p, q, hA0, hV, rfl, hfz, hnd⟩ := hW
  have hA : DataW.TrodAll enc Try.prog W 0 (fun _ => true) true Try.f3.params.toList args.toList ds p := hA0
  rw [Try.params3] at hA hval hsz
  obtain ⟨v0, vs0, d0, ds0, p0, q0, hargs, rfl, rfl, h0, r0⟩ := trodAll_cons hA
  obtain ⟨v1, vs1, d1, ds1, p1, q1, rfl, rfl, rfl, h1, r1⟩ := trodAll_cons r0
  obtain ⟨v2, vs2, d2, ds2, p2, q2, rfl, rfl, rfl, h2, r2⟩ := trodAll_cons r1
  obtain ⟨rfl, rfl, rfl⟩ := trodAll_nil r2
  obtain rfl : args = #[v0, v1, v2] := by cases args; simp_all
  obtain ⟨rfl, rfl⟩ := trodVars_none hV
  have k0 := h0
  have lt0 : ∀ x ∈ p0, x.block < W.heap.size := by obtain ⟨m, hm⟩ := k0; exact DataW.trod_lt m _ _ _ hm
  obtain ⟨u0, u1, u2, y0, y1, y2, m, rfl, _, _, t0, t1, t2⟩ := open_agg3 Try.underlying24 (by kernel_rfl) (by kernel_rfl) (hval 0 24 v0 rfl rfl) h0
  obtain ⟨A, C, c0, rfl, hC, hc0⟩ : ∃ (A : Option Addr) (C : List Bool) (c0 : Nat), u0 = .slice A C.length c0 ∧ Kd.C Kd.bool W A C.length C ∧ C.length ≤ c0 := by
    rcases open_bools Try.underlying22 Try.underlying4 (by kernel_rfl) t0 with ⟨hcs, _⟩ | ⟨x, l, c, B, hcs, _, hl, hm, _, hcell⟩
    · obtain rfl : u0 = .slice none 0 0 := by simpa using hcs
      exact ⟨none, [], 0, rfl, ⟨rfl, by decide, fun h => by simp at h⟩, Nat.le_refl _⟩
    · obtain rfl : u0 = .slice (some x) l c := by simpa using hcs
      refine ⟨some x, (List.range l).map B, c, by simp, bools_read B l (by unfold maxLen at hm; omega) fun i hi => hcell i (by omega), by simpa using hl⟩
  obtain ⟨torn, hu1, _, _⟩ := DataW.trod_int Try.underlying3 t1
  obtain rfl : u1 = .int .i64 torn := by simpa using hu1
  obtain ⟨at_, hu2, _, _⟩ := DataW.trod_int Try.underlying3 t2
  obtain rfl : u2 = .int .i64 at_ := by simpa using hu2
  obtain ⟨a0, len0, cap0, rfl⟩ := okWide_slice Try.underlying25 (hval 1 25 v1 rfl rfl)
  have k1 := h1
  have lt1 : ∀ x ∈ p1, x.block < W.heap.size := by obtain ⟨m, hm⟩ := k1; exact DataW.trod_lt m _ _ _ hm
  obtain ⟨z0, w0⟩ : ∃ zs, IsRow .u8 W a0 len0 cap0 zs := by
    obtain ⟨fuel, hf⟩ := h1
    rcases open_ints Try.underlying25 Try.underlying5 (by kernel_rfl) hf with ⟨hcs, _⟩ | ⟨x, l, c, zs, hcs, _, hl, hm, hz, _, hcell, hwz⟩
    · simp [Value.cells] at hcs
      obtain ⟨rfl, rfl, rfl⟩ := hcs
      exact ⟨[], .inl ⟨rfl, rfl, rfl, rfl⟩⟩
    · simp [Value.cells] at hcs
      obtain ⟨rfl, rfl, rfl⟩ := hcs
      exact ⟨zs, .inr ⟨_, rfl, hl, hm, by simpa using hz, hcell, hwz⟩⟩
  obtain ⟨a1, rfl, rfl, rfl, w1⟩ := open_int Try.underlying5 (hval 2 5 v2 rfl rfl) h2
  clear hA0 hval0 hsz0 hsz
  obtain ⟨l0, rfl, hr0, hm0, hw0, hcc⟩ := YtknibnbepmdapaaW.PrintWords.ReadsInt.ofRowC w0
  refine ((callsIn_wide (n := 9)).1 (fatePuts_in A c0 C torn at_ a0 cap0 l0 a1 W hC hc0 (YtknibnbepmdapaaW.PrintWords.Kd.C_of_reads hr0) (fun x hx => by have := bounds_u8 (hw0 x hx); omega) (by have := bounds_u8 w1; omega))).mono fun e W' ⟨he, bel⟩ => ?_
  subst he
  exact ⟨_, rfl, _, _, _, [], _, [], hW', trodAll_mk1 (shut_bool Try.underlying4 _), (trodAll_cons_mk (Below.trod laidOut (by kernel_rfl) (of_decide_eq_true (by kernel_rfl)) k0 bel lt0) (trodAll_cons_mk (Below.trod laidOut (by kernel_rfl) (of_decide_eq_true (by kernel_rfl)) k1 bel lt1) (trodAll_cons_mk (shut_int Try.underlying5 w1) trodAll_mk0))), rfl, bel.frame _, fun h => by cases h⟩
theorem over : Rows.fatePutsRow.holds Try.pinned (OpenSpec.ofChange Rows.fatePutsSpec) :=
  OpenClaim.holds_of_wide 3 Try.f3 rfl rfl rfl rfl rfl rfl rfl ⟨rfl, rfl, rfl, rfl, rfl⟩ rfl rfl rfl rfl rfl (by kernel_rfl) Try.func3 (by kernel_rfl)
    (of_decide_eq_true (by kernel_rfl)) (by unfold Func.isWrapper; first | (rw [if_pos (by decide +kernel)]; kernel_rfl) | (rw [if_neg (by decide +kernel)]; exact ⟨rfl, rfl⟩))
    (fun os started H enc _ => lifted os started H enc)
theorem proved : Rows.FatePutsSaid := over
#print axioms proved
end Go.Proofs.Ytknibnbepmdapaa.fatePuts
namespace Go.Proofs.Ytknibnbepmdapaa
/-- The row, under a short name, for the claim. -/
theorem fatePuts_holds : Rows.FatePutsSaid := fatePuts.proved
end Go.Proofs.Ytknibnbepmdapaa
