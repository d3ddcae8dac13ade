/-
FateKnown: what its examples come to.
-/
import Derived.Test.YtknibnbepmdapaaMb
import Derived.Test.YtknibnbepmdapaaIa
import Derived.Test.YtknibnbepmdapaaReg4
namespace Go.Proofs.Ytknibnbepmdapaa
open Go.RowKit Go.Shelf Go.Proofs.YtknibnbepmdapaaW.PrintWords Go.Proofs.YtknibnbepmdapaaW.PrintMore Go.Proofs.Ytknibnbepmdapaa.PFate

def knownRows : List S49 :=
  [⟨⟨[], -1, 0⟩, 0⟩, ⟨⟨[], 0, 0⟩, 2⟩, ⟨⟨[], -1, 1⟩, 2⟩, ⟨⟨[], -2, 0⟩, 2⟩, ⟨⟨[false], 0, 0⟩, 2⟩, ⟨⟨[true], 1, 0⟩, 2⟩, ⟨⟨[true], 0, 256⟩, 0⟩, ⟨⟨[true], 0, 257⟩, 2⟩, ⟨⟨[true], 0, -1⟩, 2⟩,
   ⟨⟨List.replicate 200 true, 127, 0⟩, 0⟩, ⟨⟨List.replicate 200 true, 128, 0⟩, 4⟩, ⟨⟨List.replicate 4096 false, -1, 0⟩, 0⟩, ⟨⟨List.replicate 4097 false, -1, 0⟩, 4⟩]

theorem aheadOf_neg {N : Nat} (xs : List (Fin N × Fin N)) : aheadOf (-1) xs = -1 := by
  unfold aheadOf
  have : ∀ (xs : List (Fin N × Fin N)) (t : Int), xs.foldl (fun t x => if (x.2.val : Int) = -1 then (x.1.val : Int) else t) t = t := by
    intro xs
    induction xs with
    | nil => intro t; rfl
    | cons x xs ih => intro t; rw [List.foldl_cons, if_neg (by omega)]; exact ih t
  exact this xs _

theorem put_fits (l : List Bool) (h : l.length ≤ 4096) : (fatePut l (-1) 0).2 = 0 := by
  unfold fatePut
  have hm : mayB l (-1) 0 = true := by unfold mayB; rw [if_pos rfl]; rfl
  rw [hm, aheadOf_neg, if_neg (by simp), if_neg (by omega), if_neg (by omega), if_neg (by omega)]

theorem put_many (l : List Bool) (h : 4096 < l.length) : (fatePut l (-1) 0).2 = 4 := by
  unfold fatePut
  have hm : mayB l (-1) 0 = true := by unfold mayB; rw [if_pos rfl]; rfl
  rw [hm, if_neg (by simp), if_pos h]

set_option maxRecDepth 100000 in
theorem knownRows_put : ∀ x ∈ knownRows, (fatePut x.f0.f0 x.f0.f1 x.f0.f2).2 = x.f1 := by
  intro x hx
  unfold knownRows at hx
  simp only [List.mem_cons, List.not_mem_nil, or_false] at hx
  rcases hx with rfl | rfl | rfl | rfl | rfl | rfl | rfl | rfl | rfl | rfl | rfl | rfl | rfl
  · kernel_rfl
  · kernel_rfl
  · kernel_rfl
  · kernel_rfl
  · kernel_rfl
  · kernel_rfl
  · kernel_rfl
  · kernel_rfl
  · kernel_rfl
  · kernel_rfl
  · kernel_rfl
  · exact put_fits (List.replicate 4096 false) (by rw [List.length_replicate]; omega)
  · exact put_many (List.replicate 4097 false) (by rw [List.length_replicate]; omega)

theorem known_a : fateRead [5, 128, 0, 0] 3 = ([true, false, true], -1, 0) := by kernel_rfl
theorem known_b : fateRead [5, 1, 0] 3 = ([true, false, true], -1, 0) := by kernel_rfl
theorem known_c : fateRead [2, 3, 1, 1] 2 = ([false, true], 1, 0) := by kernel_rfl
theorem known_d : fateRead [255] (-1) = ([], -1, 0) := by kernel_rfl
theorem known_h : fateRead [0, 0, 0, 9] 8 = ([false, false, false, false, false, false, false, false], -1, 0) := by kernel_rfl
theorem known_g : (fateRead [] 5000).1.length = 4096 := by
  unfold fateRead
  exact fateReadN_length _ _
theorem known_w : (wholeOf 9000).length = 4096 := by
  unfold wholeOf
  rw [List.length_replicate]
  rfl

def knownShort : ByteArray := ⟨#[115, 104, 111, 114, 116]⟩
def knownWrites : List S43 := [⟨0, secS 120⟩, ⟨1, secS 121⟩, ⟨-1, secS 122⟩, ⟨0, knownShort⟩]

theorem fateAfter_four (was : List ByteArray) (l : List S43) (t a : Int) : fateAfter was l [true, true, true, true] t a = afterStep l t a (afterStep l t a (afterStep l t a (afterStep l t a was 0) 1) 2) 3 := rfl

theorem known_l : fateAfter [secS 97] knownWrites [true, true, true, true] (-1) 0 = [secS 120] := by
  have e1 : afterStep knownWrites (-1) 0 [secS 97] 0 = [secS 120] := by
    unfold afterStep
    rw [if_pos ⟨by decide, by decide, by decide, secS_size 120⟩]
    show [layAt (-1) 0 0 (secS 120) (secS 97)] = _
    rw [layAt_whole _ _ _ _ _ (by decide) (secS_size _) (secS_size _)]
  have e2 : ∀ i, i = 1 ∨ i = 2 ∨ i = 3 → afterStep knownWrites (-1) 0 [secS 120] i = [secS 120] := by
    intro i hi
    unfold afterStep
    rw [if_neg]
    rintro ⟨_, h2, h3, h4⟩
    rcases hi with rfl | rfl | rfl
    · exact absurd h3 (by show ¬ ((1 : Int) < 1); decide)
    · exact absurd h2 (by show ¬ ((0 : Int) ≤ -1); decide)
    · exact absurd h4 (by show ¬ knownShort.size = 256; decide)
  rw [fateAfter_four, e1, e2 1 (by simp), e2 2 (by simp), e2 3 (by simp)]

theorem known_k : fateAfter [secS 97] knownWrites [] (-1) 0 = [secS 97] := rfl
end Go.Proofs.Ytknibnbepmdapaa

/-
FateKnown: the walk of its body.
-/
namespace Go.Proofs.Ytknibnbepmdapaa
open Go.RowKit Go.Shelf Go.Proofs.YtknibnbepmdapaaW.PrintWords Go.Proofs.YtknibnbepmdapaaW.PrintMore Go.Proofs.Ytknibnbepmdapaa.PFate
attribute [local go_sem] Oper.semAt_some

def falses (n : Nat) : Array Value := encV Value.bool (List.replicate n false)
def KSlice (xs : List Bool) (v : Value) (w : World) : Prop := ∃ A c, v = .slice A xs.length c ∧ xs.length ≤ c ∧ Kd.C Kd.bool w A xs.length xs
def KAgg (x : S24) (v : Value) (w : World) : Prop := ∃ A c, v = .agg #[.slice A x.f0.length c, .int .i64 x.f1, .int .i64 x.f2] ∧ x.f0.length ≤ c ∧ Kd.C Kd.bool w A x.f0.length x.f0
def KRow (x : S49) (v : Value) (w : World) : Prop := ∃ A c, v = .agg #[.slice A x.f0.f0.length c, .int .i64 x.f0.f1, .int .i64 x.f0.f2, .int .i64 x.f1] ∧ x.f0.f0.length ≤ c ∧ Kd.C Kd.bool w A x.f0.f0.length x.f0.f0
def KRows (v : Value) (w : World) : Prop := ∃ A, v = .slice A 13 13 ∧ Kd.C k49 w A 13 knownRows
theorem KSlice.stay {xs : List Bool} {v : Value} {w w' : World} (h : KSlice xs v w) (hb : Below w.heap.size w w') : KSlice xs v w' := by
  obtain ⟨A, c, hv, hl, hC⟩ := h; exact ⟨A, c, hv, hl, Kd.C_below hC hb⟩
theorem KAgg.stay {x : S24} {v : Value} {w w' : World} (h : KAgg x v w) (hb : Below w.heap.size w w') : KAgg x v w' := by
  obtain ⟨A, c, hv, hl, hC⟩ := h; exact ⟨A, c, hv, hl, Kd.C_below hC hb⟩
theorem KRow.stay {x : S49} {v : Value} {w w' : World} (h : KRow x v w) (hb : Below w.heap.size w w') : KRow x v w' := by
  obtain ⟨A, c, hv, hl, hC⟩ := h; exact ⟨A, c, hv, hl, Kd.C_below hC hb⟩
theorem KRows.stay {v : Value} {w w' : World} (h : KRows v w) (hb : Below w.heap.size w w') : KRows v w' := by
  obtain ⟨A, hv, hC⟩ := h; exact ⟨A, hv, Kd.C_below hC hb⟩

def KnownRel : Nat → Value → World → Prop
  | 0 => KAgg ⟨[], -1, 0⟩
  | 1 => KRow ⟨⟨[], -1, 0⟩, 0⟩
  | 2 => KAgg ⟨[], 0, 0⟩
  | 3 => KRow ⟨⟨[], 0, 0⟩, 2⟩
  | 4 => KAgg ⟨[], -1, 1⟩
  | 5 => KRow ⟨⟨[], -1, 1⟩, 2⟩
  | 6 => KAgg ⟨[], -2, 0⟩
  | 7 => KRow ⟨⟨[], -2, 0⟩, 2⟩
  | 8 => KSlice [false]
  | 9 => KAgg ⟨[false], 0, 0⟩
  | 10 => KRow ⟨⟨[false], 0, 0⟩, 2⟩
  | 11 => KSlice [true]
  | 12 => KAgg ⟨[true], 1, 0⟩
  | 13 => KRow ⟨⟨[true], 1, 0⟩, 2⟩
  | 14 => KSlice [true]
  | 15 => KAgg ⟨[true], 0, 256⟩
  | 16 => KRow ⟨⟨[true], 0, 256⟩, 0⟩
  | 17 => KSlice [true]
  | 18 => KAgg ⟨[true], 0, 257⟩
  | 19 => KRow ⟨⟨[true], 0, 257⟩, 2⟩
  | 20 => KSlice [true]
  | 21 => KAgg ⟨[true], 0, -1⟩
  | 22 => KRow ⟨⟨[true], 0, -1⟩, 2⟩
  | 23 => KSlice (List.replicate 200 true)
  | 24 => KAgg ⟨(List.replicate 200 true), 127, 0⟩
  | 25 => KRow ⟨⟨(List.replicate 200 true), 127, 0⟩, 0⟩
  | 26 => KSlice (List.replicate 200 true)
  | 27 => KAgg ⟨(List.replicate 200 true), 128, 0⟩
  | 28 => KRow ⟨⟨(List.replicate 200 true), 128, 0⟩, 4⟩
  | 29 => KSlice (List.replicate 4096 false)
  | 30 => KAgg ⟨(List.replicate 4096 false), -1, 0⟩
  | 31 => KRow ⟨⟨(List.replicate 4096 false), -1, 0⟩, 0⟩
  | 32 => KSlice (List.replicate 4097 false)
  | 33 => KAgg ⟨(List.replicate 4097 false), -1, 0⟩
  | 34 => KRow ⟨⟨(List.replicate 4097 false), -1, 0⟩, 4⟩
  | 35 => KRows
  | 36 => fun v _ => v = .int .i64 13
  | 37 => fun v _ => v = .int .i64 0
  | _ => fun _ _ => True

theorem known_C {w : World} {g : Nat} {A0 : Option Addr} {c0 : Nat} {A1 : Option Addr} {c1 : Nat} {A2 : Option Addr} {c2 : Nat} {A3 : Option Addr} {c3 : Nat} {A4 : Option Addr} {c4 : Nat} {A5 : Option Addr} {c5 : Nat} {A6 : Option Addr} {c6 : Nat} {A7 : Option Addr} {c7 : Nat} {A8 : Option Addr} {c8 : Nat} {A9 : Option Addr} {c9 : Nat} {A10 : Option Addr} {c10 : Nat} {A11 : Option Addr} {c11 : Nat} {A12 : Option Addr} {c12 : Nat}
    (h : Blk w g 49 #[.slice A0 ([] : List Bool).length c0, .int .i64 (-1), .int .i64 (0), .int .i64 (0), .slice A1 ([] : List Bool).length c1, .int .i64 (0), .int .i64 (0), .int .i64 (2), .slice A2 ([] : List Bool).length c2, .int .i64 (-1), .int .i64 (1), .int .i64 (2), .slice A3 ([] : List Bool).length c3, .int .i64 (-2), .int .i64 (0), .int .i64 (2), .slice A4 ([false] : List Bool).length c4, .int .i64 (0), .int .i64 (0), .int .i64 (2), .slice A5 ([true] : List Bool).length c5, .int .i64 (1), .int .i64 (0), .int .i64 (2), .slice A6 ([true] : List Bool).length c6, .int .i64 (0), .int .i64 (256), .int .i64 (0), .slice A7 ([true] : List Bool).length c7, .int .i64 (0), .int .i64 (257), .int .i64 (2), .slice A8 ([true] : List Bool).length c8, .int .i64 (0), .int .i64 (-1), .int .i64 (2), .slice A9 ((List.replicate 200 true) : List Bool).length c9, .int .i64 (127), .int .i64 (0), .int .i64 (0), .slice A10 ((List.replicate 200 true) : List Bool).length c10, .int .i64 (128), .int .i64 (0), .int .i64 (4), .slice A11 ((List.replicate 4096 false) : List Bool).length c11, .int .i64 (-1), .int .i64 (0), .int .i64 (0), .slice A12 ((List.replicate 4097 false) : List Bool).length c12, .int .i64 (-1), .int .i64 (0), .int .i64 (4)]) (l0 : ([] : List Bool).length ≤ c0) (g0 : Kd.C Kd.bool w A0 ([] : List Bool).length []) (l1 : ([] : List Bool).length ≤ c1) (g1 : Kd.C Kd.bool w A1 ([] : List Bool).length []) (l2 : ([] : List Bool).length ≤ c2) (g2 : Kd.C Kd.bool w A2 ([] : List Bool).length []) (l3 : ([] : List Bool).length ≤ c3) (g3 : Kd.C Kd.bool w A3 ([] : List Bool).length []) (l4 : ([false] : List Bool).length ≤ c4) (g4 : Kd.C Kd.bool w A4 ([false] : List Bool).length [false]) (l5 : ([true] : List Bool).length ≤ c5) (g5 : Kd.C Kd.bool w A5 ([true] : List Bool).length [true]) (l6 : ([true] : List Bool).length ≤ c6) (g6 : Kd.C Kd.bool w A6 ([true] : List Bool).length [true]) (l7 : ([true] : List Bool).length ≤ c7) (g7 : Kd.C Kd.bool w A7 ([true] : List Bool).length [true]) (l8 : ([true] : List Bool).length ≤ c8) (g8 : Kd.C Kd.bool w A8 ([true] : List Bool).length [true]) (l9 : ((List.replicate 200 true) : List Bool).length ≤ c9) (g9 : Kd.C Kd.bool w A9 ((List.replicate 200 true) : List Bool).length (List.replicate 200 true)) (l10 : ((List.replicate 200 true) : List Bool).length ≤ c10) (g10 : Kd.C Kd.bool w A10 ((List.replicate 200 true) : List Bool).length (List.replicate 200 true)) (l11 : ((List.replicate 4096 false) : List Bool).length ≤ c11) (g11 : Kd.C Kd.bool w A11 ((List.replicate 4096 false) : List Bool).length (List.replicate 4096 false)) (l12 : ((List.replicate 4097 false) : List Bool).length ≤ c12) (g12 : Kd.C Kd.bool w A12 ((List.replicate 4097 false) : List Bool).length (List.replicate 4097 false)) :
    Kd.C k49 w (some ⟨g, 0, none⟩) 13 knownRows := by
  refine ⟨rfl, by decide, fun _ => ⟨_, rfl, fun j p hj => ?_⟩⟩
  match j, hj with
  | 0, hj =>
    have hx : knownRows[0]? = some ⟨⟨[], -1, 0⟩, 0⟩ := rfl
    rw [hx] at hj
    cases hj
    refine ⟨_, rfl, k49_mk w ⟨⟨[], -1, 0⟩, 0⟩ l0 g0, fun i u hu => ?_⟩
    rw [add_plain]
    match i, hu with
    | 0, hu => exact (h.cell 0).trans hu
    | 1, hu => exact (h.cell 1).trans hu
    | 2, hu => exact (h.cell 2).trans hu
    | 3, hu => exact (h.cell 3).trans hu
    | i + 4, hu => have h4 : i + 4 < 4 := (List.getElem?_eq_some_iff.1 hu).1; omega
  | 1, hj =>
    have hx : knownRows[1]? = some ⟨⟨[], 0, 0⟩, 2⟩ := rfl
    rw [hx] at hj
    cases hj
    refine ⟨_, rfl, k49_mk w ⟨⟨[], 0, 0⟩, 2⟩ l1 g1, fun i u hu => ?_⟩
    rw [add_plain]
    match i, hu with
    | 0, hu => exact (h.cell 4).trans hu
    | 1, hu => exact (h.cell 5).trans hu
    | 2, hu => exact (h.cell 6).trans hu
    | 3, hu => exact (h.cell 7).trans hu
    | i + 4, hu => have h4 : i + 4 < 4 := (List.getElem?_eq_some_iff.1 hu).1; omega
  | 2, hj =>
    have hx : knownRows[2]? = some ⟨⟨[], -1, 1⟩, 2⟩ := rfl
    rw [hx] at hj
    cases hj
    refine ⟨_, rfl, k49_mk w ⟨⟨[], -1, 1⟩, 2⟩ l2 g2, fun i u hu => ?_⟩
    rw [add_plain]
    match i, hu with
    | 0, hu => exact (h.cell 8).trans hu
    | 1, hu => exact (h.cell 9).trans hu
    | 2, hu => exact (h.cell 10).trans hu
    | 3, hu => exact (h.cell 11).trans hu
    | i + 4, hu => have h4 : i + 4 < 4 := (List.getElem?_eq_some_iff.1 hu).1; omega
  | 3, hj =>
    have hx : knownRows[3]? = some ⟨⟨[], -2, 0⟩, 2⟩ := rfl
    rw [hx] at hj
    cases hj
    refine ⟨_, rfl, k49_mk w ⟨⟨[], -2, 0⟩, 2⟩ l3 g3, fun i u hu => ?_⟩
    rw [add_plain]
    match i, hu with
    | 0, hu => exact (h.cell 12).trans hu
    | 1, hu => exact (h.cell 13).trans hu
    | 2, hu => exact (h.cell 14).trans hu
    | 3, hu => exact (h.cell 15).trans hu
    | i + 4, hu => have h4 : i + 4 < 4 := (List.getElem?_eq_some_iff.1 hu).1; omega
  | 4, hj =>
    have hx : knownRows[4]? = some ⟨⟨[false], 0, 0⟩, 2⟩ := rfl
    rw [hx] at hj
    cases hj
    refine ⟨_, rfl, k49_mk w ⟨⟨[false], 0, 0⟩, 2⟩ l4 g4, fun i u hu => ?_⟩
    rw [add_plain]
    match i, hu with
    | 0, hu => exact (h.cell 16).trans hu
    | 1, hu => exact (h.cell 17).trans hu
    | 2, hu => exact (h.cell 18).trans hu
    | 3, hu => exact (h.cell 19).trans hu
    | i + 4, hu => have h4 : i + 4 < 4 := (List.getElem?_eq_some_iff.1 hu).1; omega
  | 5, hj =>
    have hx : knownRows[5]? = some ⟨⟨[true], 1, 0⟩, 2⟩ := rfl
    rw [hx] at hj
    cases hj
    refine ⟨_, rfl, k49_mk w ⟨⟨[true], 1, 0⟩, 2⟩ l5 g5, fun i u hu => ?_⟩
    rw [add_plain]
    match i, hu with
    | 0, hu => exact (h.cell 20).trans hu
    | 1, hu => exact (h.cell 21).trans hu
    | 2, hu => exact (h.cell 22).trans hu
    | 3, hu => exact (h.cell 23).trans hu
    | i + 4, hu => have h4 : i + 4 < 4 := (List.getElem?_eq_some_iff.1 hu).1; omega
  | 6, hj =>
    have hx : knownRows[6]? = some ⟨⟨[true], 0, 256⟩, 0⟩ := rfl
    rw [hx] at hj
    cases hj
    refine ⟨_, rfl, k49_mk w ⟨⟨[true], 0, 256⟩, 0⟩ l6 g6, fun i u hu => ?_⟩
    rw [add_plain]
    match i, hu with
    | 0, hu => exact (h.cell 24).trans hu
    | 1, hu => exact (h.cell 25).trans hu
    | 2, hu => exact (h.cell 26).trans hu
    | 3, hu => exact (h.cell 27).trans hu
    | i + 4, hu => have h4 : i + 4 < 4 := (List.getElem?_eq_some_iff.1 hu).1; omega
  | 7, hj =>
    have hx : knownRows[7]? = some ⟨⟨[true], 0, 257⟩, 2⟩ := rfl
    rw [hx] at hj
    cases hj
    refine ⟨_, rfl, k49_mk w ⟨⟨[true], 0, 257⟩, 2⟩ l7 g7, fun i u hu => ?_⟩
    rw [add_plain]
    match i, hu with
    | 0, hu => exact (h.cell 28).trans hu
    | 1, hu => exact (h.cell 29).trans hu
    | 2, hu => exact (h.cell 30).trans hu
    | 3, hu => exact (h.cell 31).trans hu
    | i + 4, hu => have h4 : i + 4 < 4 := (List.getElem?_eq_some_iff.1 hu).1; omega
  | 8, hj =>
    have hx : knownRows[8]? = some ⟨⟨[true], 0, -1⟩, 2⟩ := rfl
    rw [hx] at hj
    cases hj
    refine ⟨_, rfl, k49_mk w ⟨⟨[true], 0, -1⟩, 2⟩ l8 g8, fun i u hu => ?_⟩
    rw [add_plain]
    match i, hu with
    | 0, hu => exact (h.cell 32).trans hu
    | 1, hu => exact (h.cell 33).trans hu
    | 2, hu => exact (h.cell 34).trans hu
    | 3, hu => exact (h.cell 35).trans hu
    | i + 4, hu => have h4 : i + 4 < 4 := (List.getElem?_eq_some_iff.1 hu).1; omega
  | 9, hj =>
    have hx : knownRows[9]? = some ⟨⟨(List.replicate 200 true), 127, 0⟩, 0⟩ := rfl
    rw [hx] at hj
    cases hj
    refine ⟨_, rfl, k49_mk w ⟨⟨(List.replicate 200 true), 127, 0⟩, 0⟩ l9 g9, fun i u hu => ?_⟩
    rw [add_plain]
    match i, hu with
    | 0, hu => exact (h.cell 36).trans hu
    | 1, hu => exact (h.cell 37).trans hu
    | 2, hu => exact (h.cell 38).trans hu
    | 3, hu => exact (h.cell 39).trans hu
    | i + 4, hu => have h4 : i + 4 < 4 := (List.getElem?_eq_some_iff.1 hu).1; omega
  | 10, hj =>
    have hx : knownRows[10]? = some ⟨⟨(List.replicate 200 true), 128, 0⟩, 4⟩ := rfl
    rw [hx] at hj
    cases hj
    refine ⟨_, rfl, k49_mk w ⟨⟨(List.replicate 200 true), 128, 0⟩, 4⟩ l10 g10, fun i u hu => ?_⟩
    rw [add_plain]
    match i, hu with
    | 0, hu => exact (h.cell 40).trans hu
    | 1, hu => exact (h.cell 41).trans hu
    | 2, hu => exact (h.cell 42).trans hu
    | 3, hu => exact (h.cell 43).trans hu
    | i + 4, hu => have h4 : i + 4 < 4 := (List.getElem?_eq_some_iff.1 hu).1; omega
  | 11, hj =>
    have hx : knownRows[11]? = some ⟨⟨(List.replicate 4096 false), -1, 0⟩, 0⟩ := rfl
    rw [hx] at hj
    cases hj
    refine ⟨_, rfl, k49_mk w ⟨⟨(List.replicate 4096 false), -1, 0⟩, 0⟩ l11 g11, fun i u hu => ?_⟩
    rw [add_plain]
    match i, hu with
    | 0, hu => exact (h.cell 44).trans hu
    | 1, hu => exact (h.cell 45).trans hu
    | 2, hu => exact (h.cell 46).trans hu
    | 3, hu => exact (h.cell 47).trans hu
    | i + 4, hu => have h4 : i + 4 < 4 := (List.getElem?_eq_some_iff.1 hu).1; omega
  | 12, hj =>
    have hx : knownRows[12]? = some ⟨⟨(List.replicate 4097 false), -1, 0⟩, 4⟩ := rfl
    rw [hx] at hj
    cases hj
    refine ⟨_, rfl, k49_mk w ⟨⟨(List.replicate 4097 false), -1, 0⟩, 4⟩ l12 g12, fun i u hu => ?_⟩
    rw [add_plain]
    match i, hu with
    | 0, hu => exact (h.cell 48).trans hu
    | 1, hu => exact (h.cell 49).trans hu
    | 2, hu => exact (h.cell 50).trans hu
    | 3, hu => exact (h.cell 51).trans hu
    | i + 4, hu => have h4 : i + 4 < 4 := (List.getElem?_eq_some_iff.1 hu).1; omega
  | j + 13, hj => have h4 : j + 13 < 13 := (List.getElem?_eq_some_iff.1 hj).1; omega

theorem KnownRel.stay (i : Nat) (v : Value) (w w' : World) (h : KnownRel i v w) (hb : Below w.heap.size w w') : KnownRel i v w' := by
  unfold KnownRel at h ⊢
  split at h
  all_goals first | exact KSlice.stay h hb | exact KAgg.stay h hb | exact KRow.stay h hb | exact KRows.stay h hb | exact h

theorem known_writes {w : World} {g : Nat} (h : Blk w g 43 #[.int .i64 0, .string (secS 120), .int .i64 1, .string (secS 121), .int .i64 (-1), .string (secS 122), .int .i64 0, .string ⟨#[115, 104, 111, 114, 116]⟩]) : Kd.C k43 w (some ⟨g, 0, none⟩) 4 knownWrites := by
  refine ⟨rfl, by decide, fun _ => ⟨_, rfl, fun j p hj => ?_⟩⟩
  match j, hj with
  | 0, hj =>
    have hx : knownWrites[0]? = some ⟨0, secS 120⟩ := rfl
    rw [hx] at hj
    cases hj
    refine ⟨_, rfl, k43_mk w ⟨0, secS 120⟩, fun i u hu => ?_⟩
    rw [add_plain]
    match i, hu with
    | 0, hu => exact (h.cell 0).trans hu
    | 1, hu => exact (h.cell 1).trans hu
    | i + 2, hu => have h4 : i + 2 < 2 := (List.getElem?_eq_some_iff.1 hu).1; omega
  | 1, hj =>
    have hx : knownWrites[1]? = some ⟨1, secS 121⟩ := rfl
    rw [hx] at hj
    cases hj
    refine ⟨_, rfl, k43_mk w ⟨1, secS 121⟩, fun i u hu => ?_⟩
    rw [add_plain]
    match i, hu with
    | 0, hu => exact (h.cell 2).trans hu
    | 1, hu => exact (h.cell 3).trans hu
    | i + 2, hu => have h4 : i + 2 < 2 := (List.getElem?_eq_some_iff.1 hu).1; omega
  | 2, hj =>
    have hx : knownWrites[2]? = some ⟨-1, secS 122⟩ := rfl
    rw [hx] at hj
    cases hj
    refine ⟨_, rfl, k43_mk w ⟨-1, secS 122⟩, fun i u hu => ?_⟩
    rw [add_plain]
    match i, hu with
    | 0, hu => exact (h.cell 4).trans hu
    | 1, hu => exact (h.cell 5).trans hu
    | i + 2, hu => have h4 : i + 2 < 2 := (List.getElem?_eq_some_iff.1 hu).1; omega
  | 3, hj =>
    have hx : knownWrites[3]? = some ⟨0, knownShort⟩ := rfl
    rw [hx] at hj
    cases hj
    refine ⟨_, rfl, k43_mk w ⟨0, knownShort⟩, fun i u hu => ?_⟩
    rw [add_plain]
    match i, hu with
    | 0, hu => exact (h.cell 6).trans hu
    | 1, hu => exact (h.cell 7).trans hu
    | i + 2, hu => have h4 : i + 2 < 2 := (List.getElem?_eq_some_iff.1 hu).1; omega
  | j + 4, hj => have h4 : j + 4 < 4 := (List.getElem?_eq_some_iff.1 hj).1; omega

theorem h200 : (List.replicate 200 true).length = 200 := List.length_replicate
theorem h4096 : (List.replicate 4096 false).length = 4096 := List.length_replicate
theorem h4097 : (List.replicate 4097 false).length = 4097 := List.length_replicate

set_option maxRecDepth 100000 in
set_option maxHeartbeats 4000000 in
theorem fateKnown_in (w : World) : CallsIn Fence.wide 9 Try.prog 9 #[] w fun e w' => e = .returned (.bool true) ∧ Below w.heap.size w w' := by
  have hF : ∀ f, Fence.wide.fn f := fun _ => trivial
  have mk200 : ∀ w, (Instr.makeSlice 22 (.int .i64 200) (.int .i64 200)).run Try.prog w = .ok (.slice (some ⟨w.heap.size, 0, none⟩) 200 200) (w.alloc (.cells (falses 200) 4)) := fun w => make_bools 200 (by omega) w
  have mk4096 : ∀ w, (Instr.makeSlice 22 (.int .i64 4096) (.int .i64 4096)).run Try.prog w = .ok (.slice (some ⟨w.heap.size, 0, none⟩) 4096 4096) (w.alloc (.cells (falses 4096) 4)) := fun w => make_bools 4096 (by omega) w
  have mk4097 : ∀ w, (Instr.makeSlice 22 (.int .i64 4097) (.int .i64 4097)).run Try.prog w = .ok (.slice (some ⟨w.heap.size, 0, none⟩) 4097 4097) (w.alloc (.cells (falses 4097) 4)) := fun w => make_bools 4097 (by omega) w
  refine callsIn_of_wp Try.func9 rfl (hF _) ?_ rfl
  simp only [Try.ntmps9, List.size_toArray, List.length_nil, Nat.reduceSub, Array.replicate_succ, Array.replicate_zero, List.push_toArray, List.append_toArray, List.nil_append, List.cons_append]
  gi_wp2_with fail
  refine (callsIn_wide.2 (works_calls _)).mono ?_
  rintro e w1 ⟨rfl, hb1⟩
  gi_wp2_with fail
  obtain ⟨W2, hW2⟩ : ∃ W2, w1.alloc (.cells (falses 200) 4) = W2 := ⟨_, rfl⟩
  obtain ⟨G, hG⟩ : ∃ G, w1.heap.size = G := ⟨_, rfl⟩
  have b0 : Blk W2 G 4 (encV Value.bool (List.replicate 0 true ++ List.replicate 200 false)) := by rw [← hW2, ← hG]; exact Blk.new w1 4 _
  have hbW2 : Below w.heap.size w W2 := by rw [← hW2]; exact below_alloc hb1 _
  have hGw : w.heap.size ≤ G := by rw [← hG]; exact hb1.size
  rw [hW2, hG]
  clear hW2 hG
  gi_loopw [2] (fun s wr => ∃ i : Nat, i ≤ 200 ∧ s = .int .i64 (i : Int) ∧ Blk wr G 4 (encV Value.bool (List.replicate i true ++ List.replicate (200 - i) false)) ∧ Below w.heap.size w wr)
    (fun s _ => 200 - (intOf s).toNat)
  case atStart => exact ⟨0, by decide, rfl, b0, hbW2⟩
  case round =>
    obtain ⟨i, hi, rfl, bG, hbW⟩ := hrel
    clear b0 hbW2
    rcases Nat.lt_or_ge i 200 with hlt | hge
    · have hlt' : (i : Int) < 200 := by omega
      have hsz : (encV Value.bool (List.replicate i true ++ List.replicate (200 - i) false)).size = 200 := by rw [encV_size, List.length_append, List.length_replicate, List.length_replicate]; omega
      have f0 := bG.frozen i
      obtain ⟨z0, g0⟩ : ∃ x, wr.cell? ⟨G, i, none⟩ = some x := ⟨_, (bG.cell i).trans (Array.getElem?_eq_getElem (by omega))⟩
      have hset : (encV Value.bool (List.replicate i true ++ List.replicate (200 - i) false)).setIfInBounds i (.bool true) = encV Value.bool (List.replicate (i + 1) true ++ List.replicate (200 - (i + 1)) false) := by
        rw [encV_set, show 200 - i = (200 - (i + 1)) + 1 by omega, rep_true]
      replace hsz := Lib.hid hsz
      replace hset := Lib.hid hset
      gi_wp2
      go_roundw
      case rel => exact ⟨i + 1, by omega, by go_num, by rw [← hset.out]; exact bG.set i _, hbW.setCell (p := ⟨G, i, none⟩) hGw _⟩
      case measure => simp [intOf]; omega
    · obtain rfl : i = 200 := by omega
      have bG : Blk wr G 4 (encV Value.bool (List.replicate 200 true)) := by have := bG; rwa [Nat.sub_self, List.replicate_zero, List.append_nil] at this
      gi_wp2_with fail
      rw [show ((200 : Nat) : Int) = 200 from rfl]
      refine wpIn_region_rel KnownRel (by kernel_rfl) (by kernel_rfl) KnownRel.stay ?steps ?ends
      case steps =>
        intro f w' hb
        simp only [AllRel, RelStep, relFrame, fillT, List.map_cons, List.map_nil, Option.getD_some, List.setIfInBounds_toArray, List.set_cons_zero, List.set_cons_succ, Nat.reduceAdd]
        refine ⟨?_, ?_, ?_, ?_, ?_, ?_, ?_, ?_, ?_, ?_, ?_, ?_, ?_, ?_, ?_, ?_, ?_, ?_, ?_, ?_, ?_, ?_, ?_, ?_, ?_, ?_, ?_, ?_, ?_, ?_, ?_, ?_, ?_, ?_, ?_, ?_, ?_, ?_, trivial⟩
        · intro hd
          gi_wp2
          exact ⟨rfl, .agg #[.slice none 0 0, .int .i64 (-1), .int .i64 (0)], rfl, ⟨none, 0, rfl, Nat.le_refl _, Kd.C_nil _ _⟩, Below.refl _ _⟩
        · intro hd
          obtain ⟨A, c, hv, hl, hC⟩ : KAgg ⟨[], -1, 0⟩ (f 28) w' := hd 0 (List.mem_of_elem_eq_true (by kernel_rfl)) _ _ rfl rfl
          dsimp only at hv hl hC
          obtain ⟨xs, hxs⟩ : ∃ xs : List Bool, Hid (xs = []) := ⟨_, Lib.hid rfl⟩
          rw [← hxs.out] at hv hl hC
          simp only [hv]
          gi_wp2
          obtain rfl := hxs.out
          exact ⟨rfl, .agg #[.slice A ([] : List Bool).length c, .int .i64 (-1), .int .i64 (0), .int .i64 0], rfl, ⟨A, c, rfl, hl, hC⟩, Below.refl _ _⟩
        · intro hd
          gi_wp2
          exact ⟨rfl, .agg #[.slice none 0 0, .int .i64 (0), .int .i64 (0)], rfl, ⟨none, 0, rfl, Nat.le_refl _, Kd.C_nil _ _⟩, Below.refl _ _⟩
        · intro hd
          obtain ⟨A, c, hv, hl, hC⟩ : KAgg ⟨[], 0, 0⟩ (f 30) w' := hd 2 (List.mem_of_elem_eq_true (by kernel_rfl)) _ _ rfl rfl
          dsimp only at hv hl hC
          obtain ⟨xs, hxs⟩ : ∃ xs : List Bool, Hid (xs = []) := ⟨_, Lib.hid rfl⟩
          rw [← hxs.out] at hv hl hC
          simp only [hv]
          gi_wp2
          obtain rfl := hxs.out
          exact ⟨rfl, .agg #[.slice A ([] : List Bool).length c, .int .i64 (0), .int .i64 (0), .int .i64 2], rfl, ⟨A, c, rfl, hl, hC⟩, Below.refl _ _⟩
        · intro hd
          gi_wp2
          exact ⟨rfl, .agg #[.slice none 0 0, .int .i64 (-1), .int .i64 (1)], rfl, ⟨none, 0, rfl, Nat.le_refl _, Kd.C_nil _ _⟩, Below.refl _ _⟩
        · intro hd
          obtain ⟨A, c, hv, hl, hC⟩ : KAgg ⟨[], -1, 1⟩ (f 32) w' := hd 4 (List.mem_of_elem_eq_true (by kernel_rfl)) _ _ rfl rfl
          dsimp only at hv hl hC
          obtain ⟨xs, hxs⟩ : ∃ xs : List Bool, Hid (xs = []) := ⟨_, Lib.hid rfl⟩
          rw [← hxs.out] at hv hl hC
          simp only [hv]
          gi_wp2
          obtain rfl := hxs.out
          exact ⟨rfl, .agg #[.slice A ([] : List Bool).length c, .int .i64 (-1), .int .i64 (1), .int .i64 2], rfl, ⟨A, c, rfl, hl, hC⟩, Below.refl _ _⟩
        · intro hd
          gi_wp2
          exact ⟨rfl, .agg #[.slice none 0 0, .int .i64 (-2), .int .i64 (0)], rfl, ⟨none, 0, rfl, Nat.le_refl _, Kd.C_nil _ _⟩, Below.refl _ _⟩
        · intro hd
          obtain ⟨A, c, hv, hl, hC⟩ : KAgg ⟨[], -2, 0⟩ (f 34) w' := hd 6 (List.mem_of_elem_eq_true (by kernel_rfl)) _ _ rfl rfl
          dsimp only at hv hl hC
          obtain ⟨xs, hxs⟩ : ∃ xs : List Bool, Hid (xs = []) := ⟨_, Lib.hid rfl⟩
          rw [← hxs.out] at hv hl hC
          simp only [hv]
          gi_wp2
          obtain rfl := hxs.out
          exact ⟨rfl, .agg #[.slice A ([] : List Bool).length c, .int .i64 (-2), .int .i64 (0), .int .i64 2], rfl, ⟨A, c, rfl, hl, hC⟩, Below.refl _ _⟩
        · intro hd
          gi_wp2
          exact ⟨rfl, .slice (some ⟨w'.heap.size, 0, none⟩) 1 1, rfl, ⟨some ⟨w'.heap.size, 0, none⟩, 1, rfl, by decide, Blk.reads (enc := Value.bool) (h1 := fun _ => rfl) (xs := [false]) (Blk.new w' 4 _) (by decide)⟩, below_alloc (Below.refl _ _) _⟩
        · intro hd
          obtain ⟨A, c, hv, hl, hC⟩ : KSlice [false] (f 36) w' := hd 8 (List.mem_of_elem_eq_true (by kernel_rfl)) _ _ rfl rfl
          obtain ⟨xs, hxs⟩ : ∃ xs : List Bool, Hid (xs = [false]) := ⟨_, Lib.hid rfl⟩
          rw [← hxs.out] at hv hl hC
          simp only [hv]
          gi_wp2
          obtain rfl := hxs.out
          exact ⟨rfl, .agg #[.slice A ([false] : List Bool).length c, .int .i64 (0), .int .i64 (0)], rfl, ⟨A, c, rfl, hl, hC⟩, Below.refl _ _⟩
        · intro hd
          obtain ⟨A, c, hv, hl, hC⟩ : KAgg ⟨[false], 0, 0⟩ (f 37) w' := hd 9 (List.mem_of_elem_eq_true (by kernel_rfl)) _ _ rfl rfl
          dsimp only at hv hl hC
          obtain ⟨xs, hxs⟩ : ∃ xs : List Bool, Hid (xs = [false]) := ⟨_, Lib.hid rfl⟩
          rw [← hxs.out] at hv hl hC
          simp only [hv]
          gi_wp2
          obtain rfl := hxs.out
          exact ⟨rfl, .agg #[.slice A ([false] : List Bool).length c, .int .i64 (0), .int .i64 (0), .int .i64 2], rfl, ⟨A, c, rfl, hl, hC⟩, Below.refl _ _⟩
        · intro hd
          gi_wp2
          exact ⟨rfl, .slice (some ⟨w'.heap.size, 0, none⟩) 1 1, rfl, ⟨some ⟨w'.heap.size, 0, none⟩, 1, rfl, by decide, Blk.reads (enc := Value.bool) (h1 := fun _ => rfl) (xs := [true]) (Blk.new w' 4 _) (by decide)⟩, below_alloc (Below.refl _ _) _⟩
        · intro hd
          obtain ⟨A, c, hv, hl, hC⟩ : KSlice [true] (f 39) w' := hd 11 (List.mem_of_elem_eq_true (by kernel_rfl)) _ _ rfl rfl
          obtain ⟨xs, hxs⟩ : ∃ xs : List Bool, Hid (xs = [true]) := ⟨_, Lib.hid rfl⟩
          rw [← hxs.out] at hv hl hC
          simp only [hv]
          gi_wp2
          obtain rfl := hxs.out
          exact ⟨rfl, .agg #[.slice A ([true] : List Bool).length c, .int .i64 (1), .int .i64 (0)], rfl, ⟨A, c, rfl, hl, hC⟩, Below.refl _ _⟩
        · intro hd
          obtain ⟨A, c, hv, hl, hC⟩ : KAgg ⟨[true], 1, 0⟩ (f 40) w' := hd 12 (List.mem_of_elem_eq_true (by kernel_rfl)) _ _ rfl rfl
          dsimp only at hv hl hC
          obtain ⟨xs, hxs⟩ : ∃ xs : List Bool, Hid (xs = [true]) := ⟨_, Lib.hid rfl⟩
          rw [← hxs.out] at hv hl hC
          simp only [hv]
          gi_wp2
          obtain rfl := hxs.out
          exact ⟨rfl, .agg #[.slice A ([true] : List Bool).length c, .int .i64 (1), .int .i64 (0), .int .i64 2], rfl, ⟨A, c, rfl, hl, hC⟩, Below.refl _ _⟩
        · intro hd
          gi_wp2
          exact ⟨rfl, .slice (some ⟨w'.heap.size, 0, none⟩) 1 1, rfl, ⟨some ⟨w'.heap.size, 0, none⟩, 1, rfl, by decide, Blk.reads (enc := Value.bool) (h1 := fun _ => rfl) (xs := [true]) (Blk.new w' 4 _) (by decide)⟩, below_alloc (Below.refl _ _) _⟩
        · intro hd
          obtain ⟨A, c, hv, hl, hC⟩ : KSlice [true] (f 42) w' := hd 14 (List.mem_of_elem_eq_true (by kernel_rfl)) _ _ rfl rfl
          obtain ⟨xs, hxs⟩ : ∃ xs : List Bool, Hid (xs = [true]) := ⟨_, Lib.hid rfl⟩
          rw [← hxs.out] at hv hl hC
          simp only [hv]
          gi_wp2
          obtain rfl := hxs.out
          exact ⟨rfl, .agg #[.slice A ([true] : List Bool).length c, .int .i64 (0), .int .i64 (256)], rfl, ⟨A, c, rfl, hl, hC⟩, Below.refl _ _⟩
        · intro hd
          obtain ⟨A, c, hv, hl, hC⟩ : KAgg ⟨[true], 0, 256⟩ (f 43) w' := hd 15 (List.mem_of_elem_eq_true (by kernel_rfl)) _ _ rfl rfl
          dsimp only at hv hl hC
          obtain ⟨xs, hxs⟩ : ∃ xs : List Bool, Hid (xs = [true]) := ⟨_, Lib.hid rfl⟩
          rw [← hxs.out] at hv hl hC
          simp only [hv]
          gi_wp2
          obtain rfl := hxs.out
          exact ⟨rfl, .agg #[.slice A ([true] : List Bool).length c, .int .i64 (0), .int .i64 (256), .int .i64 0], rfl, ⟨A, c, rfl, hl, hC⟩, Below.refl _ _⟩
        · intro hd
          gi_wp2
          exact ⟨rfl, .slice (some ⟨w'.heap.size, 0, none⟩) 1 1, rfl, ⟨some ⟨w'.heap.size, 0, none⟩, 1, rfl, by decide, Blk.reads (enc := Value.bool) (h1 := fun _ => rfl) (xs := [true]) (Blk.new w' 4 _) (by decide)⟩, below_alloc (Below.refl _ _) _⟩
        · intro hd
          obtain ⟨A, c, hv, hl, hC⟩ : KSlice [true] (f 45) w' := hd 17 (List.mem_of_elem_eq_true (by kernel_rfl)) _ _ rfl rfl
          obtain ⟨xs, hxs⟩ : ∃ xs : List Bool, Hid (xs = [true]) := ⟨_, Lib.hid rfl⟩
          rw [← hxs.out] at hv hl hC
          simp only [hv]
          gi_wp2
          obtain rfl := hxs.out
          exact ⟨rfl, .agg #[.slice A ([true] : List Bool).length c, .int .i64 (0), .int .i64 (257)], rfl, ⟨A, c, rfl, hl, hC⟩, Below.refl _ _⟩
        · intro hd
          obtain ⟨A, c, hv, hl, hC⟩ : KAgg ⟨[true], 0, 257⟩ (f 46) w' := hd 18 (List.mem_of_elem_eq_true (by kernel_rfl)) _ _ rfl rfl
          dsimp only at hv hl hC
          obtain ⟨xs, hxs⟩ : ∃ xs : List Bool, Hid (xs = [true]) := ⟨_, Lib.hid rfl⟩
          rw [← hxs.out] at hv hl hC
          simp only [hv]
          gi_wp2
          obtain rfl := hxs.out
          exact ⟨rfl, .agg #[.slice A ([true] : List Bool).length c, .int .i64 (0), .int .i64 (257), .int .i64 2], rfl, ⟨A, c, rfl, hl, hC⟩, Below.refl _ _⟩
        · intro hd
          gi_wp2
          exact ⟨rfl, .slice (some ⟨w'.heap.size, 0, none⟩) 1 1, rfl, ⟨some ⟨w'.heap.size, 0, none⟩, 1, rfl, by decide, Blk.reads (enc := Value.bool) (h1 := fun _ => rfl) (xs := [true]) (Blk.new w' 4 _) (by decide)⟩, below_alloc (Below.refl _ _) _⟩
        · intro hd
          obtain ⟨A, c, hv, hl, hC⟩ : KSlice [true] (f 48) w' := hd 20 (List.mem_of_elem_eq_true (by kernel_rfl)) _ _ rfl rfl
          obtain ⟨xs, hxs⟩ : ∃ xs : List Bool, Hid (xs = [true]) := ⟨_, Lib.hid rfl⟩
          rw [← hxs.out] at hv hl hC
          simp only [hv]
          gi_wp2
          obtain rfl := hxs.out
          exact ⟨rfl, .agg #[.slice A ([true] : List Bool).length c, .int .i64 (0), .int .i64 (-1)], rfl, ⟨A, c, rfl, hl, hC⟩, Below.refl _ _⟩
        · intro hd
          obtain ⟨A, c, hv, hl, hC⟩ : KAgg ⟨[true], 0, -1⟩ (f 49) w' := hd 21 (List.mem_of_elem_eq_true (by kernel_rfl)) _ _ rfl rfl
          dsimp only at hv hl hC
          obtain ⟨xs, hxs⟩ : ∃ xs : List Bool, Hid (xs = [true]) := ⟨_, Lib.hid rfl⟩
          rw [← hxs.out] at hv hl hC
          simp only [hv]
          gi_wp2
          obtain rfl := hxs.out
          exact ⟨rfl, .agg #[.slice A ([true] : List Bool).length c, .int .i64 (0), .int .i64 (-1), .int .i64 2], rfl, ⟨A, c, rfl, hl, hC⟩, Below.refl _ _⟩
        · intro hd
          gi_wp2
          exact ⟨rfl, .slice (some ⟨G, 0, none⟩) 200 200, rfl, ⟨some ⟨G, 0, none⟩, 200, by rw [h200], Nat.le_of_eq h200, by rw [h200]; exact Blk.reads (enc := Value.bool) (h1 := fun _ => rfl) (xs := List.replicate 200 true) (bG.below hb) (by rw [h200]; decide)⟩, Below.refl _ _⟩
        · intro hd
          obtain ⟨A, c, hv, hl, hC⟩ : KSlice (List.replicate 200 true) (f 51) w' := hd 23 (List.mem_of_elem_eq_true (by kernel_rfl)) _ _ rfl rfl
          obtain ⟨xs, hxs⟩ : ∃ xs : List Bool, Hid (xs = (List.replicate 200 true)) := ⟨_, Lib.hid rfl⟩
          rw [← hxs.out] at hv hl hC
          simp only [hv]
          gi_wp2
          obtain rfl := hxs.out
          exact ⟨rfl, .agg #[.slice A ((List.replicate 200 true) : List Bool).length c, .int .i64 (127), .int .i64 (0)], rfl, ⟨A, c, rfl, hl, hC⟩, Below.refl _ _⟩
        · intro hd
          obtain ⟨A, c, hv, hl, hC⟩ : KAgg ⟨(List.replicate 200 true), 127, 0⟩ (f 52) w' := hd 24 (List.mem_of_elem_eq_true (by kernel_rfl)) _ _ rfl rfl
          dsimp only at hv hl hC
          obtain ⟨xs, hxs⟩ : ∃ xs : List Bool, Hid (xs = (List.replicate 200 true)) := ⟨_, Lib.hid rfl⟩
          rw [← hxs.out] at hv hl hC
          simp only [hv]
          gi_wp2
          obtain rfl := hxs.out
          exact ⟨rfl, .agg #[.slice A ((List.replicate 200 true) : List Bool).length c, .int .i64 (127), .int .i64 (0), .int .i64 0], rfl, ⟨A, c, rfl, hl, hC⟩, Below.refl _ _⟩
        · intro hd
          gi_wp2
          exact ⟨rfl, .slice (some ⟨G, 0, none⟩) 200 200, rfl, ⟨some ⟨G, 0, none⟩, 200, by rw [h200], Nat.le_of_eq h200, by rw [h200]; exact Blk.reads (enc := Value.bool) (h1 := fun _ => rfl) (xs := List.replicate 200 true) (bG.below hb) (by rw [h200]; decide)⟩, Below.refl _ _⟩
        · intro hd
          obtain ⟨A, c, hv, hl, hC⟩ : KSlice (List.replicate 200 true) (f 54) w' := hd 26 (List.mem_of_elem_eq_true (by kernel_rfl)) _ _ rfl rfl
          obtain ⟨xs, hxs⟩ : ∃ xs : List Bool, Hid (xs = (List.replicate 200 true)) := ⟨_, Lib.hid rfl⟩
          rw [← hxs.out] at hv hl hC
          simp only [hv]
          gi_wp2
          obtain rfl := hxs.out
          exact ⟨rfl, .agg #[.slice A ((List.replicate 200 true) : List Bool).length c, .int .i64 (128), .int .i64 (0)], rfl, ⟨A, c, rfl, hl, hC⟩, Below.refl _ _⟩
        · intro hd
          obtain ⟨A, c, hv, hl, hC⟩ : KAgg ⟨(List.replicate 200 true), 128, 0⟩ (f 55) w' := hd 27 (List.mem_of_elem_eq_true (by kernel_rfl)) _ _ rfl rfl
          dsimp only at hv hl hC
          obtain ⟨xs, hxs⟩ : ∃ xs : List Bool, Hid (xs = (List.replicate 200 true)) := ⟨_, Lib.hid rfl⟩
          rw [← hxs.out] at hv hl hC
          simp only [hv]
          gi_wp2
          obtain rfl := hxs.out
          exact ⟨rfl, .agg #[.slice A ((List.replicate 200 true) : List Bool).length c, .int .i64 (128), .int .i64 (0), .int .i64 4], rfl, ⟨A, c, rfl, hl, hC⟩, Below.refl _ _⟩
        · intro hd
          gi_wp2
          exact ⟨rfl, .slice (some ⟨w'.heap.size, 0, none⟩) 4096 4096, rfl, ⟨some ⟨w'.heap.size, 0, none⟩, 4096, by rw [h4096], Nat.le_of_eq h4096, by rw [h4096]; exact Blk.reads (enc := Value.bool) (h1 := fun _ => rfl) (xs := List.replicate 4096 false) (Blk.new w' 4 _) (by rw [h4096]; decide)⟩, below_alloc (Below.refl _ _) _⟩
        · intro hd
          obtain ⟨A, c, hv, hl, hC⟩ : KSlice (List.replicate 4096 false) (f 57) w' := hd 29 (List.mem_of_elem_eq_true (by kernel_rfl)) _ _ rfl rfl
          obtain ⟨xs, hxs⟩ : ∃ xs : List Bool, Hid (xs = (List.replicate 4096 false)) := ⟨_, Lib.hid rfl⟩
          rw [← hxs.out] at hv hl hC
          simp only [hv]
          gi_wp2
          obtain rfl := hxs.out
          exact ⟨rfl, .agg #[.slice A ((List.replicate 4096 false) : List Bool).length c, .int .i64 (-1), .int .i64 (0)], rfl, ⟨A, c, rfl, hl, hC⟩, Below.refl _ _⟩
        · intro hd
          obtain ⟨A, c, hv, hl, hC⟩ : KAgg ⟨(List.replicate 4096 false), -1, 0⟩ (f 58) w' := hd 30 (List.mem_of_elem_eq_true (by kernel_rfl)) _ _ rfl rfl
          dsimp only at hv hl hC
          obtain ⟨xs, hxs⟩ : ∃ xs : List Bool, Hid (xs = (List.replicate 4096 false)) := ⟨_, Lib.hid rfl⟩
          rw [← hxs.out] at hv hl hC
          simp only [hv]
          gi_wp2
          obtain rfl := hxs.out
          exact ⟨rfl, .agg #[.slice A ((List.replicate 4096 false) : List Bool).length c, .int .i64 (-1), .int .i64 (0), .int .i64 0], rfl, ⟨A, c, rfl, hl, hC⟩, Below.refl _ _⟩
        · intro hd
          gi_wp2
          exact ⟨rfl, .slice (some ⟨w'.heap.size, 0, none⟩) 4097 4097, rfl, ⟨some ⟨w'.heap.size, 0, none⟩, 4097, by rw [h4097], Nat.le_of_eq h4097, by rw [h4097]; exact Blk.reads (enc := Value.bool) (h1 := fun _ => rfl) (xs := List.replicate 4097 false) (Blk.new w' 4 _) (by rw [h4097]; decide)⟩, below_alloc (Below.refl _ _) _⟩
        · intro hd
          obtain ⟨A, c, hv, hl, hC⟩ : KSlice (List.replicate 4097 false) (f 60) w' := hd 32 (List.mem_of_elem_eq_true (by kernel_rfl)) _ _ rfl rfl
          obtain ⟨xs, hxs⟩ : ∃ xs : List Bool, Hid (xs = (List.replicate 4097 false)) := ⟨_, Lib.hid rfl⟩
          rw [← hxs.out] at hv hl hC
          simp only [hv]
          gi_wp2
          obtain rfl := hxs.out
          exact ⟨rfl, .agg #[.slice A ((List.replicate 4097 false) : List Bool).length c, .int .i64 (-1), .int .i64 (0)], rfl, ⟨A, c, rfl, hl, hC⟩, Below.refl _ _⟩
        · intro hd
          obtain ⟨A, c, hv, hl, hC⟩ : KAgg ⟨(List.replicate 4097 false), -1, 0⟩ (f 61) w' := hd 33 (List.mem_of_elem_eq_true (by kernel_rfl)) _ _ rfl rfl
          dsimp only at hv hl hC
          obtain ⟨xs, hxs⟩ : ∃ xs : List Bool, Hid (xs = (List.replicate 4097 false)) := ⟨_, Lib.hid rfl⟩
          rw [← hxs.out] at hv hl hC
          simp only [hv]
          gi_wp2
          obtain rfl := hxs.out
          exact ⟨rfl, .agg #[.slice A ((List.replicate 4097 false) : List Bool).length c, .int .i64 (-1), .int .i64 (0), .int .i64 4], rfl, ⟨A, c, rfl, hl, hC⟩, Below.refl _ _⟩
        · intro hd
          obtain ⟨A0, c0, hv0, hl0, hC0⟩ : KRow ⟨⟨[], -1, 0⟩, 0⟩ (f 29) w' := hd 1 (List.mem_of_elem_eq_true (by kernel_rfl)) _ _ rfl rfl
          obtain ⟨A1, c1, hv1, hl1, hC1⟩ : KRow ⟨⟨[], 0, 0⟩, 2⟩ (f 31) w' := hd 3 (List.mem_of_elem_eq_true (by kernel_rfl)) _ _ rfl rfl
          obtain ⟨A2, c2, hv2, hl2, hC2⟩ : KRow ⟨⟨[], -1, 1⟩, 2⟩ (f 33) w' := hd 5 (List.mem_of_elem_eq_true (by kernel_rfl)) _ _ rfl rfl
          obtain ⟨A3, c3, hv3, hl3, hC3⟩ : KRow ⟨⟨[], -2, 0⟩, 2⟩ (f 35) w' := hd 7 (List.mem_of_elem_eq_true (by kernel_rfl)) _ _ rfl rfl
          obtain ⟨A4, c4, hv4, hl4, hC4⟩ : KRow ⟨⟨[false], 0, 0⟩, 2⟩ (f 38) w' := hd 10 (List.mem_of_elem_eq_true (by kernel_rfl)) _ _ rfl rfl
          obtain ⟨A5, c5, hv5, hl5, hC5⟩ : KRow ⟨⟨[true], 1, 0⟩, 2⟩ (f 41) w' := hd 13 (List.mem_of_elem_eq_true (by kernel_rfl)) _ _ rfl rfl
          obtain ⟨A6, c6, hv6, hl6, hC6⟩ : KRow ⟨⟨[true], 0, 256⟩, 0⟩ (f 44) w' := hd 16 (List.mem_of_elem_eq_true (by kernel_rfl)) _ _ rfl rfl
          obtain ⟨A7, c7, hv7, hl7, hC7⟩ : KRow ⟨⟨[true], 0, 257⟩, 2⟩ (f 47) w' := hd 19 (List.mem_of_elem_eq_true (by kernel_rfl)) _ _ rfl rfl
          obtain ⟨A8, c8, hv8, hl8, hC8⟩ : KRow ⟨⟨[true], 0, -1⟩, 2⟩ (f 50) w' := hd 22 (List.mem_of_elem_eq_true (by kernel_rfl)) _ _ rfl rfl
          obtain ⟨A9, c9, hv9, hl9, hC9⟩ : KRow ⟨⟨(List.replicate 200 true), 127, 0⟩, 0⟩ (f 53) w' := hd 25 (List.mem_of_elem_eq_true (by kernel_rfl)) _ _ rfl rfl
          obtain ⟨A10, c10, hv10, hl10, hC10⟩ : KRow ⟨⟨(List.replicate 200 true), 128, 0⟩, 4⟩ (f 56) w' := hd 28 (List.mem_of_elem_eq_true (by kernel_rfl)) _ _ rfl rfl
          obtain ⟨A11, c11, hv11, hl11, hC11⟩ : KRow ⟨⟨(List.replicate 4096 false), -1, 0⟩, 0⟩ (f 59) w' := hd 31 (List.mem_of_elem_eq_true (by kernel_rfl)) _ _ rfl rfl
          obtain ⟨A12, c12, hv12, hl12, hC12⟩ : KRow ⟨⟨(List.replicate 4097 false), -1, 0⟩, 4⟩ (f 62) w' := hd 34 (List.mem_of_elem_eq_true (by kernel_rfl)) _ _ rfl rfl
          dsimp only at hv0 hl0 hC0
          obtain ⟨xs0, hxs0⟩ : ∃ xs : List Bool, Hid (xs = []) := ⟨_, Lib.hid rfl⟩
          rw [← hxs0.out] at hv0 hl0 hC0
          dsimp only at hv1 hl1 hC1
          obtain ⟨xs1, hxs1⟩ : ∃ xs : List Bool, Hid (xs = []) := ⟨_, Lib.hid rfl⟩
          rw [← hxs1.out] at hv1 hl1 hC1
          dsimp only at hv2 hl2 hC2
          obtain ⟨xs2, hxs2⟩ : ∃ xs : List Bool, Hid (xs = []) := ⟨_, Lib.hid rfl⟩
          rw [← hxs2.out] at hv2 hl2 hC2
          dsimp only at hv3 hl3 hC3
          obtain ⟨xs3, hxs3⟩ : ∃ xs : List Bool, Hid (xs = []) := ⟨_, Lib.hid rfl⟩
          rw [← hxs3.out] at hv3 hl3 hC3
          dsimp only at hv4 hl4 hC4
          obtain ⟨xs4, hxs4⟩ : ∃ xs : List Bool, Hid (xs = [false]) := ⟨_, Lib.hid rfl⟩
          rw [← hxs4.out] at hv4 hl4 hC4
          dsimp only at hv5 hl5 hC5
          obtain ⟨xs5, hxs5⟩ : ∃ xs : List Bool, Hid (xs = [true]) := ⟨_, Lib.hid rfl⟩
          rw [← hxs5.out] at hv5 hl5 hC5
          dsimp only at hv6 hl6 hC6
          obtain ⟨xs6, hxs6⟩ : ∃ xs : List Bool, Hid (xs = [true]) := ⟨_, Lib.hid rfl⟩
          rw [← hxs6.out] at hv6 hl6 hC6
          dsimp only at hv7 hl7 hC7
          obtain ⟨xs7, hxs7⟩ : ∃ xs : List Bool, Hid (xs = [true]) := ⟨_, Lib.hid rfl⟩
          rw [← hxs7.out] at hv7 hl7 hC7
          dsimp only at hv8 hl8 hC8
          obtain ⟨xs8, hxs8⟩ : ∃ xs : List Bool, Hid (xs = [true]) := ⟨_, Lib.hid rfl⟩
          rw [← hxs8.out] at hv8 hl8 hC8
          dsimp only at hv9 hl9 hC9
          obtain ⟨xs9, hxs9⟩ : ∃ xs : List Bool, Hid (xs = (List.replicate 200 true)) := ⟨_, Lib.hid rfl⟩
          rw [← hxs9.out] at hv9 hl9 hC9
          dsimp only at hv10 hl10 hC10
          obtain ⟨xs10, hxs10⟩ : ∃ xs : List Bool, Hid (xs = (List.replicate 200 true)) := ⟨_, Lib.hid rfl⟩
          rw [← hxs10.out] at hv10 hl10 hC10
          dsimp only at hv11 hl11 hC11
          obtain ⟨xs11, hxs11⟩ : ∃ xs : List Bool, Hid (xs = (List.replicate 4096 false)) := ⟨_, Lib.hid rfl⟩
          rw [← hxs11.out] at hv11 hl11 hC11
          dsimp only at hv12 hl12 hC12
          obtain ⟨xs12, hxs12⟩ : ∃ xs : List Bool, Hid (xs = (List.replicate 4097 false)) := ⟨_, Lib.hid rfl⟩
          rw [← hxs12.out] at hv12 hl12 hC12
          simp only [hv0, hv1, hv2, hv3, hv4, hv5, hv6, hv7, hv8, hv9, hv10, hv11, hv12]
          gi_wp2
          obtain rfl := hxs0.out
          obtain rfl := hxs1.out
          obtain rfl := hxs2.out
          obtain rfl := hxs3.out
          obtain rfl := hxs4.out
          obtain rfl := hxs5.out
          obtain rfl := hxs6.out
          obtain rfl := hxs7.out
          obtain rfl := hxs8.out
          obtain rfl := hxs9.out
          obtain rfl := hxs10.out
          obtain rfl := hxs11.out
          obtain rfl := hxs12.out
          exact ⟨rfl, .slice (some ⟨w'.heap.size, 0, none⟩) 13 13, rfl, ⟨some ⟨w'.heap.size, 0, none⟩, rfl, known_C (Blk.new w' 49 _) hl0 (Kd.C_alloc hC0 _) hl1 (Kd.C_alloc hC1 _) hl2 (Kd.C_alloc hC2 _) hl3 (Kd.C_alloc hC3 _) hl4 (Kd.C_alloc hC4 _) hl5 (Kd.C_alloc hC5 _) hl6 (Kd.C_alloc hC6 _) hl7 (Kd.C_alloc hC7 _) hl8 (Kd.C_alloc hC8 _) hl9 (Kd.C_alloc hC9 _) hl10 (Kd.C_alloc hC10 _) hl11 (Kd.C_alloc hC11 _) hl12 (Kd.C_alloc hC12 _)⟩, below_alloc (Below.refl _ _) _⟩
        · intro hd
          obtain ⟨A, hv, hC⟩ : KRows (f 63) w' := hd 35 (List.mem_of_elem_eq_true (by kernel_rfl)) _ _ rfl rfl
          simp only [hv]
          gi_wp2
          exact ⟨rfl, .int .i64 13, rfl, rfl, Below.refl _ _⟩
        · intro hd
          gi_wp2
          exact ⟨rfl, .int .i64 0, rfl, rfl, Below.refl _ _⟩
      case ends =>
        intro f w' hb hr
        obtain ⟨A, h63, hC⟩ : KRows (f 63) w' := hr 35 (by decide) _ _ rfl rfl
        have h64 : f 64 = .int .i64 13 := hr 36 (by decide) _ _ rfl rfl
        have h65 : f 65 = .int .i64 0 := hr 37 (by decide) _ _ rfl rfl
        clear hr
        simp only [relFrame, fillT, List.map_cons, List.map_nil, Option.getD_some, List.setIfInBounds_toArray, List.set_cons_zero, List.set_cons_succ, h63, h64, h65]
        clear h63 h64 h65
        have hbv := below_then hbW hbW.size hb
        clear bG hb hbW
        gi_wp2_with fail
        gi_loopw [65] (fun s wr => ∃ i : Nat, i ≤ 13 ∧ s = .int .i64 (i : Int) ∧ Below w'.heap.size w' wr)
          (fun s _ => 13 - (intOf s).toNat)
        case atStart => exact ⟨0, by decide, rfl, Below.refl _ _⟩
        case round =>
          obtain ⟨i, hi, rfl, hbW⟩ := hrel
          rcases Nat.lt_or_ge i 13 with hlt | hge
          · have hlt' : (i : Int) < 13 := by omega
            have hp : 0 ≤ (i : Int) := by omega
            obtain ⟨ad, B, cB, hA, h0, h1, h2, h3, hlB, hCB⟩ := at_T49 (Kd.C_below hC hbW) (i : Int) (by omega) (by omega)
            have hx : (fatePut (rd_T49 knownRows (i : Int)).f0.f0 (rd_T49 knownRows (i : Int)).f0.f1 (rd_T49 knownRows (i : Int)).f0.f2).2 = (rd_T49 knownRows (i : Int)).f1 := by
              refine knownRows_put _ ?_
              unfold rd_T49
              rw [Int.toNat_natCast, List.getD_eq_getElem?_getD, List.getElem?_eq_getElem (show i < knownRows.length by show i < 13; omega)]
              exact List.getElem_mem _
            rw [Int.toNat_natCast] at h0 h1 h2 h3
            generalize rd_T49 knownRows (i : Int) = x at *
            obtain ⟨⟨xc, xt, xa⟩, xe⟩ := x
            dsimp only at h0 h1 h2 h3 hlB hCB hx
            subst hA
            gi_wp2_with fail
            obtain ⟨Y, hY⟩ : ∃ Y, wr.alloc (.cells #[.slice B xc.length cB, .int .i64 xt, .int .i64 xa, .int .i64 xe] 49) = Y := ⟨_, rfl⟩
            have bY : Blk Y wr.heap.size 49 #[.slice B xc.length cB, .int .i64 xt, .int .i64 xa, .int .i64 xe] := by rw [← hY]; exact Blk.new wr 49 _
            have hCY : Kd.C Kd.bool Y B xc.length xc := by rw [← hY]; exact Kd.C_alloc hCB _
            have hbY : Below w'.heap.size w' Y := by rw [← hY]; exact below_alloc hbW _
            rw [hY]
            clear hY
            refine (callsIn_wide.2 (put_calls B cB xc xt xa Y hCY)).mono ?_
            rintro e w4 ⟨v1, rfl, _, hb4⟩
            rw [hx]
            clear hx
            have g3 : w4.cell? ⟨wr.heap.size, 3, none⟩ = some (.int .i64 xe) := (bY.below hb4).cell 3
            gi_wp2
            go_roundw
            case rel => exact ⟨i + 1, by omega, by go_num, below_then hbY hbY.size hb4⟩
            case measure => simp [intOf]; omega
          · obtain rfl : i = 13 := by omega
            replace hbv := below_then hbv hbv.size hbW
            clear hbW hC
            gi_wp2_with fail
            have c1 : Kd.C (Kd.int .u8) (wr.alloc (.cells #[.int .u8 5, .int .u8 128, .int .u8 0, .int .u8 0] 5)) (some ⟨wr.heap.size, 0, none⟩) 4 [5, 128, 0, 0] := Blk.reads (enc := Value.int .u8) (h1 := fun _ => rfl) (Blk.new wr 5 _) (by decide)
            refine (callsIn_wide.2 (read_calls _ 4 [5, 128, 0, 0] 3 _ c1 (by decide) (by unfold Bytes; decide))).mono ?_
            rintro e w2 ⟨v, rfl, hR, hb2⟩
            rw [known_a] at hR ⊢
            dsimp only at hR ⊢
            obtain ⟨Aa, ca, hv, _, hCa⟩ := Kd.R_reads hR
            replace hv : v = .slice Aa 3 ca := hv
            replace hCa : Kd.C Kd.bool w2 Aa 3 [true, false, true] := hCa
            subst hv
            replace hbv := below_then (below_alloc hbv _) (by have := hbv.size; simp; omega) hb2
            clear c1 hR hb2
            gi_wp2_with fail
            have c1 : Kd.C (Kd.int .u8) (w2.alloc (.cells #[.int .u8 5, .int .u8 1, .int .u8 0] 5)) (some ⟨w2.heap.size, 0, none⟩) 3 [5, 1, 0] := Blk.reads (enc := Value.int .u8) (h1 := fun _ => rfl) (Blk.new w2 5 _) (by decide)
            refine (callsIn_wide.2 (read_calls _ 3 [5, 1, 0] 3 _ c1 (by decide) (by unfold Bytes; decide))).mono ?_
            rintro e w3 ⟨v, rfl, hR, hb2⟩
            rw [known_b] at hR ⊢
            dsimp only at hR ⊢
            obtain ⟨Ab, cb, hv, _, _⟩ := Kd.R_reads hR
            replace hv : v = .slice Ab 3 cb := hv
            subst hv
            replace hCa := Kd.C_below hCa (below_then (below_alloc (Below.refl _ _) _) (by simp) hb2)
            replace hbv := below_then (below_alloc hbv _) (by have := hbv.size; simp; omega) hb2
            clear c1 hR hb2
            gi_wp2_with fail
            have c1 : Kd.C (Kd.int .u8) (w3.alloc (.cells #[.int .u8 2, .int .u8 3, .int .u8 1, .int .u8 1] 5)) (some ⟨w3.heap.size, 0, none⟩) 4 [2, 3, 1, 1] := Blk.reads (enc := Value.int .u8) (h1 := fun _ => rfl) (Blk.new w3 5 _) (by decide)
            refine (callsIn_wide.2 (read_calls _ 4 [2, 3, 1, 1] 2 _ c1 (by decide) (by unfold Bytes; decide))).mono ?_
            rintro e w4 ⟨v, rfl, hR, hb2⟩
            rw [known_c] at hR ⊢
            dsimp only at hR ⊢
            obtain ⟨Ac, cc, hv, _, _⟩ := Kd.R_reads hR
            replace hv : v = .slice Ac 2 cc := hv
            subst hv
            replace hCa := Kd.C_below hCa (below_then (below_alloc (Below.refl _ _) _) (by simp) hb2)
            replace hbv := below_then (below_alloc hbv _) (by have := hbv.size; simp; omega) hb2
            clear c1 hR hb2
            gi_wp2_with fail
            obtain ⟨W5, hW5⟩ : ∃ W5, (((w4.alloc (.cells #[.slice Aa 3 ca, .int .i64 (-1), .int .i64 0] 24)).alloc (.cells #[.slice Ab 3 cb, .int .i64 (-1), .int .i64 0] 24)).alloc (.cells #[.slice Ac 2 cc, .int .i64 1, .int .i64 0] 24)).alloc (.cells #[.int .u8 255] 5) = W5 := ⟨_, rfl⟩
            have d7 : Blk W5 w4.heap.size 24 #[.slice Aa 3 ca, .int .i64 (-1), .int .i64 0] := by rw [← hW5]; exact (((Blk.new w4 24 _).alloc _).alloc _).alloc _
            have d8 : Blk W5 (w4.heap.size + 1) 24 #[.slice Ab 3 cb, .int .i64 (-1), .int .i64 0] := by rw [← hW5]; have := ((Blk.new (w4.alloc (.cells #[.slice Aa 3 ca, .int .i64 (-1), .int .i64 0] 24)) 24 #[.slice Ab 3 cb, .int .i64 (-1), .int .i64 0]).alloc (.cells #[.slice Ac 2 cc, .int .i64 1, .int .i64 0] 24)).alloc (.cells #[.int .u8 255] 5); simpa using this
            have d9 : Blk W5 (w4.heap.size + 1 + 1) 24 #[.slice Ac 2 cc, .int .i64 1, .int .i64 0] := by rw [← hW5]; have := (Blk.new ((w4.alloc (.cells #[.slice Aa 3 ca, .int .i64 (-1), .int .i64 0] 24)).alloc (.cells #[.slice Ab 3 cb, .int .i64 (-1), .int .i64 0] 24)) 24 #[.slice Ac 2 cc, .int .i64 1, .int .i64 0]).alloc (.cells #[.int .u8 255] 5); simpa using this
            have c1 : Kd.C (Kd.int .u8) W5 (some ⟨w4.heap.size + 1 + 1 + 1, 0, none⟩) 1 [255] := Blk.reads (enc := Value.int .u8) (h1 := fun _ => rfl) (xs := [255]) (by rw [← hW5]; have := Blk.new (((w4.alloc (.cells #[.slice Aa 3 ca, .int .i64 (-1), .int .i64 0] 24)).alloc (.cells #[.slice Ab 3 cb, .int .i64 (-1), .int .i64 0] 24)).alloc (.cells #[.slice Ac 2 cc, .int .i64 1, .int .i64 0] 24)) 5 #[.int .u8 255]; simpa [encV] using this) (by decide)
            have hb45 : Below w4.heap.size w4 W5 := by rw [← hW5]; exact below_alloc (below_alloc (below_alloc (below_alloc (Below.refl _ _) _) _) _) _
            rw [hW5]
            clear hW5
            replace hCa := Kd.C_below hCa hb45
            replace hbv := below_then hbv hbv.size hb45
            clear hb45
            refine (callsIn_wide.2 (read_calls _ 1 [255] (-1) _ c1 (by decide) (by unfold Bytes; decide))).mono ?_
            rintro e w6 ⟨v, rfl, hR, hb2⟩
            rw [known_d] at hR ⊢
            dsimp only at hR ⊢
            obtain ⟨Ad, cd, hv, _, _⟩ := Kd.R_reads hR
            replace hv : v = .slice Ad 0 cd := hv
            subst hv
            replace hCa := Kd.C_below hCa hb2
            replace d7 := d7.below hb2
            replace d8 := d8.below hb2
            replace d9 := d9.below hb2
            replace hbv := below_then hbv hbv.size hb2
            clear c1 hR hb2
            gi_wp2_with fail
            refine (callsIn_wide.2 (read_calls none 0 [] 5000 _ (Kd.C_nil _ _) (by decide) (by unfold Bytes; decide))).mono ?_
            rintro e w7 ⟨v, rfl, hR, hb2⟩
            have hlg := known_g
            generalize fateRead [] 5000 = Fg at *
            obtain ⟨Cg, tg, ag⟩ := Fg
            dsimp only at hR hlg ⊢
            obtain ⟨Ag, cg, hv, _, _⟩ := Kd.R_reads hR
            rw [hlg] at hv
            subst hv
            clear hlg
            replace hCa := Kd.C_below hCa hb2
            replace d7 := d7.below hb2
            replace d8 := d8.below hb2
            replace d9 := d9.below hb2
            replace hbv := below_then hbv hbv.size hb2
            clear hR hb2
            gi_wp2_with fail
            have c1 : Kd.C (Kd.int .u8) (w7.alloc (.cells #[.int .u8 0, .int .u8 0, .int .u8 0, .int .u8 9] 5)) (some ⟨w7.heap.size, 0, none⟩) 4 [0, 0, 0, 9] := Blk.reads (enc := Value.int .u8) (h1 := fun _ => rfl) (Blk.new w7 5 _) (by decide)
            refine (callsIn_wide.2 (read_calls _ 4 [0, 0, 0, 9] 8 _ c1 (by decide) (by unfold Bytes; decide))).mono ?_
            rintro e w8 ⟨v, rfl, hR, hb2⟩
            rw [known_h] at hR ⊢
            dsimp only at hR ⊢
            obtain ⟨Ah, ch, hv, _, _⟩ := Kd.R_reads hR
            replace hv : v = .slice Ah 8 ch := hv
            subst hv
            replace hb2 := below_then (below_alloc (Below.refl w7.heap.size w7) _) (by simp) hb2
            replace hCa := Kd.C_below hCa hb2
            replace d7 := d7.below hb2
            replace d8 := d8.below hb2
            replace d9 := d9.below hb2
            replace hbv := below_then hbv hbv.size hb2
            clear c1 hR hb2
            gi_wp2_with fail
            obtain ⟨W9, hW9⟩ : ∃ W9, ((w8.alloc (.cells #[.slice Ad 0 cd, .int .i64 (-1), .int .i64 0] 24)).alloc (.cells #[.slice Ag 4096 cg, .int .i64 tg, .int .i64 ag] 24)).alloc (.cells #[.slice Ah 8 ch, .int .i64 (-1), .int .i64 0] 24) = W9 := ⟨_, rfl⟩
            have d10 : Blk W9 w8.heap.size 24 #[.slice Ad 0 cd, .int .i64 (-1), .int .i64 0] := by rw [← hW9]; exact ((Blk.new w8 24 _).alloc _).alloc _
            have d11 : Blk W9 (w8.heap.size + 1) 24 #[.slice Ag 4096 cg, .int .i64 tg, .int .i64 ag] := by rw [← hW9]; have := (Blk.new (w8.alloc (.cells #[.slice Ad 0 cd, .int .i64 (-1), .int .i64 0] 24)) 24 #[.slice Ag 4096 cg, .int .i64 tg, .int .i64 ag]).alloc (.cells #[.slice Ah 8 ch, .int .i64 (-1), .int .i64 0] 24); simpa using this
            have d12 : Blk W9 (w8.heap.size + 1 + 1) 24 #[.slice Ah 8 ch, .int .i64 (-1), .int .i64 0] := by rw [← hW9]; have := Blk.new ((w8.alloc (.cells #[.slice Ad 0 cd, .int .i64 (-1), .int .i64 0] 24)).alloc (.cells #[.slice Ag 4096 cg, .int .i64 tg, .int .i64 ag] 24)) 24 #[.slice Ah 8 ch, .int .i64 (-1), .int .i64 0]; simpa using this
            have hb89 : Below w8.heap.size w8 W9 := by rw [← hW9]; exact below_alloc (below_alloc (below_alloc (Below.refl _ _) _) _) _
            rw [hW9]
            clear hW9
            replace hCa := Kd.C_below hCa hb89
            replace d7 := d7.below hb89
            replace d8 := d8.below hb89
            replace d9 := d9.below hb89
            replace hbv := below_then hbv hbv.size hb89
            clear hb89
            refine (callsIn_wide.2 (sector_ref 120 _)).mono ?_
            rintro e x1 ⟨rfl, hx1⟩
            gi_wp2_with fail
            refine (callsIn_wide.2 (sector_ref 121 _)).mono ?_
            rintro e x2 ⟨rfl, hx2⟩
            gi_wp2_with fail
            refine (callsIn_wide.2 (sector_ref 122 _)).mono ?_
            rintro e x3 ⟨rfl, hx3⟩
            replace hx3 := below_then (below_then hx1 hx1.size hx2) (Nat.le_trans hx1.size hx2.size) hx3
            replace hCa := Kd.C_below hCa hx3
            replace d7 := d7.below hx3
            replace d8 := d8.below hx3
            replace d9 := d9.below hx3
            replace d10 := d10.below hx3
            replace d11 := d11.below hx3
            replace d12 := d12.below hx3
            replace hbv := below_then hbv hbv.size hx3
            clear hx1 hx2 hx3
            gi_wp2_with fail
            obtain ⟨X4, hX4⟩ : ∃ X4, x3.alloc (.cells #[.int .i64 0, .string (secS 120), .int .i64 1, .string (secS 121), .int .i64 (-1), .string (secS 122), .int .i64 0, .string ⟨#[115, 104, 111, 114, 116]⟩] 43) = X4 := ⟨_, rfl⟩
            have hCw : Kd.C k43 X4 (some ⟨x3.heap.size, 0, none⟩) 4 knownWrites := by rw [← hX4]; exact known_writes (Blk.new x3 43 _)
            have hx4 : Below x3.heap.size x3 X4 := by rw [← hX4]; exact below_alloc (Below.refl _ _) _
            rw [hX4]
            clear hX4
            replace hCa := Kd.C_below hCa hx4
            replace d7 := d7.below hx4
            replace d8 := d8.below hx4
            replace d9 := d9.below hx4
            replace d10 := d10.below hx4
            replace d11 := d11.below hx4
            replace d12 := d12.below hx4
            replace hbv := below_then hbv hbv.size hx4
            clear hx4
            refine (callsIn_wide.2 (sector_ref 97 _)).mono ?_
            rintro e x5 ⟨rfl, hx5⟩
            gi_wp2_with fail
            have hCs : Kd.C Kd.string (x5.alloc (.cells #[.string (secS 97)] 9)) (some ⟨x5.heap.size, 0, none⟩) 1 [secS 97] := Blk.reads (enc := Value.string) (h1 := fun _ => rfl) (xs := [secS 97]) (Blk.new x5 9 _) (by decide)
            refine (callsIn_wide.2 (whole_calls 4 _)).mono ?_
            rintro e x6 ⟨v, rfl, hR, hx6⟩
            dsimp only at hR ⊢
            obtain ⟨Av, cv, hv, _, hCv⟩ := Kd.R_reads hR
            replace hv : v = .slice Av 4 cv := hv
            replace hCv : Kd.C Kd.bool x6 Av 4 [true, true, true, true] := hCv
            subst hv
            replace hCs := Kd.C_below hCs hx6
            replace hx6 := below_then (below_alloc hx5 _) (by have := hx5.size; simp; omega) hx6
            replace hCw := Kd.C_below hCw hx6
            replace hCa := Kd.C_below hCa hx6
            replace d7 := d7.below hx6
            replace d8 := d8.below hx6
            replace d9 := d9.below hx6
            replace d10 := d10.below hx6
            replace d11 := d11.below hx6
            replace d12 := d12.below hx6
            replace hbv := below_then hbv hbv.size hx6
            clear hx5 hx6 hR
            gi_wp2_with fail
            have ha := after_calls _ 1 [secS 97] _ 4 knownWrites Av cv [true, true, true, true] (-1) 0 _ hCs hCw hCv (fun s hs => by rw [List.mem_singleton] at hs; rw [hs]; exact secS_size 97) (by decide)
            rw [known_l] at ha
            refine (callsIn_wide.2 ha).mono ?_
            rintro e x7 ⟨v, rfl, hR, hx7⟩
            obtain ⟨Al, cl, hv, _, hCl⟩ := Kd.R_reads hR
            replace hv : v = .slice Al 1 cl := hv
            replace hCl : Kd.C Kd.string x7 Al 1 [secS 120] := hCl
            subst hv
            replace hCw := Kd.C_below hCw hx7
            replace hCa := Kd.C_below hCa hx7
            replace d7 := d7.below hx7
            replace d8 := d8.below hx7
            replace d9 := d9.below hx7
            replace d10 := d10.below hx7
            replace d11 := d11.below hx7
            replace d12 := d12.below hx7
            replace hbv := below_then hbv hbv.size hx7
            clear hx7 hR ha hCs hCv
            gi_wp2_with fail
            refine (callsIn_wide.2 (sector_ref 97 _)).mono ?_
            rintro e x8 ⟨rfl, hx8⟩
            gi_wp2_with fail
            have hCs : Kd.C Kd.string (x8.alloc (.cells #[.string (secS 97)] 9)) (some ⟨x8.heap.size, 0, none⟩) 1 [secS 97] := Blk.reads (enc := Value.string) (h1 := fun _ => rfl) (xs := [secS 97]) (Blk.new x8 9 _) (by decide)
            replace hx8 := below_alloc hx8 (.cells #[.string (secS 97)] 9)
            replace hCw := Kd.C_below hCw hx8
            replace hCl := Kd.C_below hCl hx8
            replace hCa := Kd.C_below hCa hx8
            replace d7 := d7.below hx8
            replace d8 := d8.below hx8
            replace d9 := d9.below hx8
            replace d10 := d10.below hx8
            replace d11 := d11.below hx8
            replace d12 := d12.below hx8
            replace hbv := below_then hbv hbv.size hx8
            clear hx8
            have ha := after_calls _ 1 [secS 97] _ 4 knownWrites none 0 [] (-1) 0 _ hCs hCw (Kd.C_nil _ _) (fun s hs => by rw [List.mem_singleton] at hs; rw [hs]; exact secS_size 97) (by decide)
            rw [known_k] at ha
            refine (callsIn_wide.2 ha).mono ?_
            rintro e x9 ⟨v, rfl, hR, hx9⟩
            obtain ⟨Ak, ck, hv, _, hCk⟩ := Kd.R_reads hR
            replace hv : v = .slice Ak 1 ck := hv
            replace hCk : Kd.C Kd.string x9 Ak 1 [secS 97] := hCk
            subst hv
            replace hCl := Kd.C_below hCl hx9
            replace hCa := Kd.C_below hCa hx9
            replace d7 := d7.below hx9
            replace d8 := d8.below hx9
            replace d9 := d9.below hx9
            replace d10 := d10.below hx9
            replace d11 := d11.below hx9
            replace d12 := d12.below hx9
            replace hbv := below_then hbv hbv.size hx9
            clear hx9 hR ha hCs hCw
            obtain ⟨aa, rfl, haa, ha0⟩ := bool_at hCa (k := 0) (by decide)
            obtain ⟨al, rfl, hal, hl0⟩ := string_at hCl (k := 0) (by decide)
            obtain ⟨ak, rfl, hak, hk0⟩ := string_at hCk (k := 0) (by decide)
            gi_wp2_with fail
            obtain ⟨KV, hKV⟩ : ∃ KV : List Value, KV = [.pointer (some ⟨w4.heap.size, 1, none⟩), .int .i64 (-1), .bool true, .bool true, .pointer (some ⟨w4.heap.size, 0, none⟩), .slice (some aa) 3 ca, .pointer (some aa), .bool true, .bool true, .bool true, .pointer (some ⟨w4.heap.size + 1, 1, none⟩), .int .i64 (-1), .bool true, .bool true, .bool true, .pointer (some ⟨w4.heap.size + 1 + 1, 1, none⟩), .int .i64 1, .bool true, .bool true, .bool true, .pointer (some ⟨w4.heap.size + 1 + 1, 2, none⟩), .int .i64 0, .bool true, .bool true, .bool true, .pointer (some ⟨w8.heap.size, 0, none⟩), .slice Ad 0 cd, .int .i64 0, .bool true, .bool true, .bool true, .pointer (some ⟨w8.heap.size, 1, none⟩), .int .i64 (-1), .bool true, .bool true, .bool true, .pointer (some ⟨w8.heap.size + 1, 0, none⟩), .slice Ag 4096 cg, .int .i64 4096, .bool true, .bool true, .bool true, .pointer (some ⟨w8.heap.size + 1 + 1, 1, none⟩), .int .i64 (-1), .bool true, .bool true, .bool true, .slice (some al) 1 cl, .int .i64 1, .bool true, .bool true, .bool true, .slice (some al) 1 cl, .pointer (some al), .string (secS 120), .string (secS 120), .bool true, .bool true, .bool true, .slice (some ak) 1 ck, .int .i64 1, .bool true, .bool true, .bool true, .slice (some ak) 1 ck, .pointer (some ak), .string (secS 97), .string (secS 97), .bool true, .bool true, .bool true, .bool true, .bool true, .int .i64 4096, .bool true, .bool true, .bool true] := ⟨_, rfl⟩
            simp only [List.append_eq, List.cons_append, List.nil_append]
            refine wpIn_region_rel (fun i v _ => if i = 71 then ∃ A c, v = .agg #[.slice A 4096 c, .int .i64 (-1), .int .i64 0] else if i = 72 then ∃ A c, v = .slice A 4096 c else v = KV.getD i undef) (by kernel_rfl) (by kernel_rfl) (fun _ _ _ _ h _ => h) ?steps2 ?ends2
            case steps2 =>
              intro f w' hb
              subst hKV
              have f0 : w'.cell? ⟨w4.heap.size, 0, none⟩ = some (.slice (some aa) 3 ca) := (d7.below hb).cell 0
              have f1 : w'.cell? ⟨w4.heap.size, 1, none⟩ = some (.int .i64 (-1)) := (d7.below hb).cell 1
              have f2 : w'.cell? ⟨w4.heap.size + 1, 1, none⟩ = some (.int .i64 (-1)) := (d8.below hb).cell 1
              have f3 : w'.cell? ⟨w4.heap.size + 1 + 1, 1, none⟩ = some (.int .i64 1) := (d9.below hb).cell 1
              have f4 : w'.cell? ⟨w4.heap.size + 1 + 1, 2, none⟩ = some (.int .i64 0) := (d9.below hb).cell 2
              have f5 : w'.cell? ⟨w8.heap.size, 0, none⟩ = some (.slice Ad 0 cd) := (d10.below hb).cell 0
              have f6 : w'.cell? ⟨w8.heap.size, 1, none⟩ = some (.int .i64 (-1)) := (d10.below hb).cell 1
              have f7 : w'.cell? ⟨w8.heap.size + 1, 0, none⟩ = some (.slice Ag 4096 cg) := (d11.below hb).cell 0
              have f8 : w'.cell? ⟨w8.heap.size + 1 + 1, 1, none⟩ = some (.int .i64 (-1)) := (d12.below hb).cell 1
              have f9 : w'.cell? aa = some (.bool true) := by have := (hb.cell (p := aa.add 0) (by rw [add_block]; exact haa)).trans ha0; simpa [Addr.add] using this
              have f10 : w'.cell? al = some (.string (secS 120)) := by have := (hb.cell (p := al.add 0) (by rw [add_block]; exact hal)).trans hl0; simpa [Addr.add] using this
              have f11 : w'.cell? ak = some (.string (secS 97)) := by have := (hb.cell (p := ak.add 0) (by rw [add_block]; exact hak)).trans hk0; simpa [Addr.add] using this
              clear d7 d8 d9 d10 d11 d12 hCl hCk hCa haa hal hak ha0 hl0 hk0 hbv hb
              simp only [AllRel, RelStep, relFrame, fillT, List.map_cons, List.map_nil, Option.getD_some, List.setIfInBounds_toArray, List.set_cons_zero, List.set_cons_succ, Nat.reduceAdd]
              refine ⟨?_, ?_, ?_, ?_, ?_, ?_, ?_, ?_, ?_, ?_, ?_, ?_, ?_, ?_, ?_, ?_, ?_, ?_, ?_, ?_, ?_, ?_, ?_, ?_, ?_, ?_, ?_, ?_, ?_, ?_, ?_, ?_, ?_, ?_, ?_, ?_, ?_, ?_, ?_, ?_, ?_, ?_, ?_, ?_, ?_, ?_, ?_, ?_, ?_, ?_, ?_, ?_, ?_, ?_, ?_, ?_, ?_, ?_, ?_, ?_, ?_, ?_, ?_, ?_, ?_, ?_, ?_, ?_, ?_, ?_, ?_, ?_, ?_, ?_, ?_, ?_, ?_, trivial⟩
              · intro hd
                clear hd
                gi_wp2
                exact ⟨rfl, .pointer (some ⟨w4.heap.size, 1, none⟩), rfl, rfl, Below.refl _ _⟩
              · intro hd
                have h0 : f 112 = .pointer (some ⟨w4.heap.size, 1, none⟩) := hd 0 (List.mem_of_elem_eq_true (by kernel_rfl)) _ _ rfl rfl
                simp only [h0]
                clear hd
                gi_wp2
                exact ⟨rfl, .int .i64 (-1), rfl, rfl, Below.refl _ _⟩
              · intro hd
                have h1 : f 113 = .int .i64 (-1) := hd 1 (List.mem_of_elem_eq_true (by kernel_rfl)) _ _ rfl rfl
                simp only [h1]
                clear hd
                gi_wp2
                exact ⟨rfl, .bool true, rfl, rfl, Below.refl _ _⟩
              · intro hd
                have h2 : f 114 = .bool true := hd 2 (List.mem_of_elem_eq_true (by kernel_rfl)) _ _ rfl rfl
                simp only [h2]
                clear hd
                gi_wp2
                exact ⟨rfl, .bool true, rfl, rfl, Below.refl _ _⟩
              · intro hd
                have h3 : f 115 = .bool true := hd 3 (List.mem_of_elem_eq_true (by kernel_rfl)) _ _ rfl rfl
                simp only [h3]
                clear hd
                gi_wp2
                exact ⟨rfl, .pointer (some ⟨w4.heap.size, 0, none⟩), rfl, rfl, Below.refl _ _⟩
              · intro hd
                have h3 : f 115 = .bool true := hd 3 (List.mem_of_elem_eq_true (by kernel_rfl)) _ _ rfl rfl
                have h4 : f 116 = .pointer (some ⟨w4.heap.size, 0, none⟩) := hd 4 (List.mem_of_elem_eq_true (by kernel_rfl)) _ _ rfl rfl
                simp only [h3, h4]
                clear hd
                gi_wp2
                exact ⟨rfl, .slice (some aa) 3 ca, rfl, rfl, Below.refl _ _⟩
              · intro hd
                have h3 : f 115 = .bool true := hd 3 (List.mem_of_elem_eq_true (by kernel_rfl)) _ _ rfl rfl
                have h5 : f 117 = .slice (some aa) 3 ca := hd 5 (List.mem_of_elem_eq_true (by kernel_rfl)) _ _ rfl rfl
                simp only [h3, h5]
                clear hd
                gi_wp2
                exact ⟨rfl, .pointer (some aa), rfl, rfl, Below.refl _ _⟩
              · intro hd
                have h3 : f 115 = .bool true := hd 3 (List.mem_of_elem_eq_true (by kernel_rfl)) _ _ rfl rfl
                have h6 : f 118 = .pointer (some aa) := hd 6 (List.mem_of_elem_eq_true (by kernel_rfl)) _ _ rfl rfl
                simp only [h3, h6]
                clear hd
                gi_wp2
                exact ⟨rfl, .bool true, rfl, rfl, Below.refl _ _⟩
              · intro hd
                have h3 : f 115 = .bool true := hd 3 (List.mem_of_elem_eq_true (by kernel_rfl)) _ _ rfl rfl
                have h7 : f 119 = .bool true := hd 7 (List.mem_of_elem_eq_true (by kernel_rfl)) _ _ rfl rfl
                simp only [h3, h7]
                clear hd
                gi_wp2
                exact ⟨rfl, .bool true, rfl, rfl, Below.refl _ _⟩
              · intro hd
                have h8 : f 120 = .bool true := hd 8 (List.mem_of_elem_eq_true (by kernel_rfl)) _ _ rfl rfl
                simp only [h8]
                clear hd
                gi_wp2
                exact ⟨rfl, .bool true, rfl, rfl, Below.refl _ _⟩
              · intro hd
                have h9 : f 121 = .bool true := hd 9 (List.mem_of_elem_eq_true (by kernel_rfl)) _ _ rfl rfl
                simp only [h9]
                clear hd
                gi_wp2
                exact ⟨rfl, .pointer (some ⟨w4.heap.size + 1, 1, none⟩), rfl, rfl, Below.refl _ _⟩
              · intro hd
                have h9 : f 121 = .bool true := hd 9 (List.mem_of_elem_eq_true (by kernel_rfl)) _ _ rfl rfl
                have h10 : f 122 = .pointer (some ⟨w4.heap.size + 1, 1, none⟩) := hd 10 (List.mem_of_elem_eq_true (by kernel_rfl)) _ _ rfl rfl
                simp only [h9, h10]
                clear hd
                gi_wp2
                exact ⟨rfl, .int .i64 (-1), rfl, rfl, Below.refl _ _⟩
              · intro hd
                have h9 : f 121 = .bool true := hd 9 (List.mem_of_elem_eq_true (by kernel_rfl)) _ _ rfl rfl
                have h11 : f 123 = .int .i64 (-1) := hd 11 (List.mem_of_elem_eq_true (by kernel_rfl)) _ _ rfl rfl
                simp only [h9, h11]
                clear hd
                gi_wp2
                exact ⟨rfl, .bool true, rfl, rfl, Below.refl _ _⟩
              · intro hd
                have h9 : f 121 = .bool true := hd 9 (List.mem_of_elem_eq_true (by kernel_rfl)) _ _ rfl rfl
                have h12 : f 124 = .bool true := hd 12 (List.mem_of_elem_eq_true (by kernel_rfl)) _ _ rfl rfl
                simp only [h9, h12]
                clear hd
                gi_wp2
                exact ⟨rfl, .bool true, rfl, rfl, Below.refl _ _⟩
              · intro hd
                have h13 : f 125 = .bool true := hd 13 (List.mem_of_elem_eq_true (by kernel_rfl)) _ _ rfl rfl
                simp only [h13]
                clear hd
                gi_wp2
                exact ⟨rfl, .bool true, rfl, rfl, Below.refl _ _⟩
              · intro hd
                have h14 : f 126 = .bool true := hd 14 (List.mem_of_elem_eq_true (by kernel_rfl)) _ _ rfl rfl
                simp only [h14]
                clear hd
                gi_wp2
                exact ⟨rfl, .pointer (some ⟨w4.heap.size + 1 + 1, 1, none⟩), rfl, rfl, Below.refl _ _⟩
              · intro hd
                have h14 : f 126 = .bool true := hd 14 (List.mem_of_elem_eq_true (by kernel_rfl)) _ _ rfl rfl
                have h15 : f 127 = .pointer (some ⟨w4.heap.size + 1 + 1, 1, none⟩) := hd 15 (List.mem_of_elem_eq_true (by kernel_rfl)) _ _ rfl rfl
                simp only [h14, h15]
                clear hd
                gi_wp2
                exact ⟨rfl, .int .i64 1, rfl, rfl, Below.refl _ _⟩
              · intro hd
                have h14 : f 126 = .bool true := hd 14 (List.mem_of_elem_eq_true (by kernel_rfl)) _ _ rfl rfl
                have h16 : f 128 = .int .i64 1 := hd 16 (List.mem_of_elem_eq_true (by kernel_rfl)) _ _ rfl rfl
                simp only [h14, h16]
                clear hd
                gi_wp2
                exact ⟨rfl, .bool true, rfl, rfl, Below.refl _ _⟩
              · intro hd
                have h14 : f 126 = .bool true := hd 14 (List.mem_of_elem_eq_true (by kernel_rfl)) _ _ rfl rfl
                have h17 : f 129 = .bool true := hd 17 (List.mem_of_elem_eq_true (by kernel_rfl)) _ _ rfl rfl
                simp only [h14, h17]
                clear hd
                gi_wp2
                exact ⟨rfl, .bool true, rfl, rfl, Below.refl _ _⟩
              · intro hd
                have h18 : f 130 = .bool true := hd 18 (List.mem_of_elem_eq_true (by kernel_rfl)) _ _ rfl rfl
                simp only [h18]
                clear hd
                gi_wp2
                exact ⟨rfl, .bool true, rfl, rfl, Below.refl _ _⟩
              · intro hd
                have h19 : f 131 = .bool true := hd 19 (List.mem_of_elem_eq_true (by kernel_rfl)) _ _ rfl rfl
                simp only [h19]
                clear hd
                gi_wp2
                exact ⟨rfl, .pointer (some ⟨w4.heap.size + 1 + 1, 2, none⟩), rfl, rfl, Below.refl _ _⟩
              · intro hd
                have h19 : f 131 = .bool true := hd 19 (List.mem_of_elem_eq_true (by kernel_rfl)) _ _ rfl rfl
                have h20 : f 132 = .pointer (some ⟨w4.heap.size + 1 + 1, 2, none⟩) := hd 20 (List.mem_of_elem_eq_true (by kernel_rfl)) _ _ rfl rfl
                simp only [h19, h20]
                clear hd
                gi_wp2
                exact ⟨rfl, .int .i64 0, rfl, rfl, Below.refl _ _⟩
              · intro hd
                have h19 : f 131 = .bool true := hd 19 (List.mem_of_elem_eq_true (by kernel_rfl)) _ _ rfl rfl
                have h21 : f 133 = .int .i64 0 := hd 21 (List.mem_of_elem_eq_true (by kernel_rfl)) _ _ rfl rfl
                simp only [h19, h21]
                clear hd
                gi_wp2
                exact ⟨rfl, .bool true, rfl, rfl, Below.refl _ _⟩
              · intro hd
                have h19 : f 131 = .bool true := hd 19 (List.mem_of_elem_eq_true (by kernel_rfl)) _ _ rfl rfl
                have h22 : f 134 = .bool true := hd 22 (List.mem_of_elem_eq_true (by kernel_rfl)) _ _ rfl rfl
                simp only [h19, h22]
                clear hd
                gi_wp2
                exact ⟨rfl, .bool true, rfl, rfl, Below.refl _ _⟩
              · intro hd
                have h23 : f 135 = .bool true := hd 23 (List.mem_of_elem_eq_true (by kernel_rfl)) _ _ rfl rfl
                simp only [h23]
                clear hd
                gi_wp2
                exact ⟨rfl, .bool true, rfl, rfl, Below.refl _ _⟩
              · intro hd
                have h24 : f 136 = .bool true := hd 24 (List.mem_of_elem_eq_true (by kernel_rfl)) _ _ rfl rfl
                simp only [h24]
                clear hd
                gi_wp2
                exact ⟨rfl, .pointer (some ⟨w8.heap.size, 0, none⟩), rfl, rfl, Below.refl _ _⟩
              · intro hd
                have h24 : f 136 = .bool true := hd 24 (List.mem_of_elem_eq_true (by kernel_rfl)) _ _ rfl rfl
                have h25 : f 137 = .pointer (some ⟨w8.heap.size, 0, none⟩) := hd 25 (List.mem_of_elem_eq_true (by kernel_rfl)) _ _ rfl rfl
                simp only [h24, h25]
                clear hd
                gi_wp2
                exact ⟨rfl, .slice Ad 0 cd, rfl, rfl, Below.refl _ _⟩
              · intro hd
                have h24 : f 136 = .bool true := hd 24 (List.mem_of_elem_eq_true (by kernel_rfl)) _ _ rfl rfl
                have h26 : f 138 = .slice Ad 0 cd := hd 26 (List.mem_of_elem_eq_true (by kernel_rfl)) _ _ rfl rfl
                simp only [h24, h26]
                clear hd
                gi_wp2
                exact ⟨rfl, .int .i64 0, rfl, rfl, Below.refl _ _⟩
              · intro hd
                have h24 : f 136 = .bool true := hd 24 (List.mem_of_elem_eq_true (by kernel_rfl)) _ _ rfl rfl
                have h27 : f 139 = .int .i64 0 := hd 27 (List.mem_of_elem_eq_true (by kernel_rfl)) _ _ rfl rfl
                simp only [h24, h27]
                clear hd
                gi_wp2
                exact ⟨rfl, .bool true, rfl, rfl, Below.refl _ _⟩
              · intro hd
                have h24 : f 136 = .bool true := hd 24 (List.mem_of_elem_eq_true (by kernel_rfl)) _ _ rfl rfl
                have h28 : f 140 = .bool true := hd 28 (List.mem_of_elem_eq_true (by kernel_rfl)) _ _ rfl rfl
                simp only [h24, h28]
                clear hd
                gi_wp2
                exact ⟨rfl, .bool true, rfl, rfl, Below.refl _ _⟩
              · intro hd
                have h29 : f 141 = .bool true := hd 29 (List.mem_of_elem_eq_true (by kernel_rfl)) _ _ rfl rfl
                simp only [h29]
                clear hd
                gi_wp2
                exact ⟨rfl, .bool true, rfl, rfl, Below.refl _ _⟩
              · intro hd
                have h30 : f 142 = .bool true := hd 30 (List.mem_of_elem_eq_true (by kernel_rfl)) _ _ rfl rfl
                simp only [h30]
                clear hd
                gi_wp2
                exact ⟨rfl, .pointer (some ⟨w8.heap.size, 1, none⟩), rfl, rfl, Below.refl _ _⟩
              · intro hd
                have h30 : f 142 = .bool true := hd 30 (List.mem_of_elem_eq_true (by kernel_rfl)) _ _ rfl rfl
                have h31 : f 143 = .pointer (some ⟨w8.heap.size, 1, none⟩) := hd 31 (List.mem_of_elem_eq_true (by kernel_rfl)) _ _ rfl rfl
                simp only [h30, h31]
                clear hd
                gi_wp2
                exact ⟨rfl, .int .i64 (-1), rfl, rfl, Below.refl _ _⟩
              · intro hd
                have h30 : f 142 = .bool true := hd 30 (List.mem_of_elem_eq_true (by kernel_rfl)) _ _ rfl rfl
                have h32 : f 144 = .int .i64 (-1) := hd 32 (List.mem_of_elem_eq_true (by kernel_rfl)) _ _ rfl rfl
                simp only [h30, h32]
                clear hd
                gi_wp2
                exact ⟨rfl, .bool true, rfl, rfl, Below.refl _ _⟩
              · intro hd
                have h30 : f 142 = .bool true := hd 30 (List.mem_of_elem_eq_true (by kernel_rfl)) _ _ rfl rfl
                have h33 : f 145 = .bool true := hd 33 (List.mem_of_elem_eq_true (by kernel_rfl)) _ _ rfl rfl
                simp only [h30, h33]
                clear hd
                gi_wp2
                exact ⟨rfl, .bool true, rfl, rfl, Below.refl _ _⟩
              · intro hd
                have h34 : f 146 = .bool true := hd 34 (List.mem_of_elem_eq_true (by kernel_rfl)) _ _ rfl rfl
                simp only [h34]
                clear hd
                gi_wp2
                exact ⟨rfl, .bool true, rfl, rfl, Below.refl _ _⟩
              · intro hd
                have h35 : f 147 = .bool true := hd 35 (List.mem_of_elem_eq_true (by kernel_rfl)) _ _ rfl rfl
                simp only [h35]
                clear hd
                gi_wp2
                exact ⟨rfl, .pointer (some ⟨w8.heap.size + 1, 0, none⟩), rfl, rfl, Below.refl _ _⟩
              · intro hd
                have h35 : f 147 = .bool true := hd 35 (List.mem_of_elem_eq_true (by kernel_rfl)) _ _ rfl rfl
                have h36 : f 148 = .pointer (some ⟨w8.heap.size + 1, 0, none⟩) := hd 36 (List.mem_of_elem_eq_true (by kernel_rfl)) _ _ rfl rfl
                simp only [h35, h36]
                clear hd
                gi_wp2
                exact ⟨rfl, .slice Ag 4096 cg, rfl, rfl, Below.refl _ _⟩
              · intro hd
                have h35 : f 147 = .bool true := hd 35 (List.mem_of_elem_eq_true (by kernel_rfl)) _ _ rfl rfl
                have h37 : f 149 = .slice Ag 4096 cg := hd 37 (List.mem_of_elem_eq_true (by kernel_rfl)) _ _ rfl rfl
                simp only [h35, h37]
                clear hd
                gi_wp2
                exact ⟨rfl, .int .i64 4096, rfl, rfl, Below.refl _ _⟩
              · intro hd
                have h35 : f 147 = .bool true := hd 35 (List.mem_of_elem_eq_true (by kernel_rfl)) _ _ rfl rfl
                have h38 : f 150 = .int .i64 4096 := hd 38 (List.mem_of_elem_eq_true (by kernel_rfl)) _ _ rfl rfl
                simp only [h35, h38]
                clear hd
                gi_wp2
                exact ⟨rfl, .bool true, rfl, rfl, Below.refl _ _⟩
              · intro hd
                have h35 : f 147 = .bool true := hd 35 (List.mem_of_elem_eq_true (by kernel_rfl)) _ _ rfl rfl
                have h39 : f 151 = .bool true := hd 39 (List.mem_of_elem_eq_true (by kernel_rfl)) _ _ rfl rfl
                simp only [h35, h39]
                clear hd
                gi_wp2
                exact ⟨rfl, .bool true, rfl, rfl, Below.refl _ _⟩
              · intro hd
                have h40 : f 152 = .bool true := hd 40 (List.mem_of_elem_eq_true (by kernel_rfl)) _ _ rfl rfl
                simp only [h40]
                clear hd
                gi_wp2
                exact ⟨rfl, .bool true, rfl, rfl, Below.refl _ _⟩
              · intro hd
                have h41 : f 153 = .bool true := hd 41 (List.mem_of_elem_eq_true (by kernel_rfl)) _ _ rfl rfl
                simp only [h41]
                clear hd
                gi_wp2
                exact ⟨rfl, .pointer (some ⟨w8.heap.size + 1 + 1, 1, none⟩), rfl, rfl, Below.refl _ _⟩
              · intro hd
                have h41 : f 153 = .bool true := hd 41 (List.mem_of_elem_eq_true (by kernel_rfl)) _ _ rfl rfl
                have h42 : f 154 = .pointer (some ⟨w8.heap.size + 1 + 1, 1, none⟩) := hd 42 (List.mem_of_elem_eq_true (by kernel_rfl)) _ _ rfl rfl
                simp only [h41, h42]
                clear hd
                gi_wp2
                exact ⟨rfl, .int .i64 (-1), rfl, rfl, Below.refl _ _⟩
              · intro hd
                have h41 : f 153 = .bool true := hd 41 (List.mem_of_elem_eq_true (by kernel_rfl)) _ _ rfl rfl
                have h43 : f 155 = .int .i64 (-1) := hd 43 (List.mem_of_elem_eq_true (by kernel_rfl)) _ _ rfl rfl
                simp only [h41, h43]
                clear hd
                gi_wp2
                exact ⟨rfl, .bool true, rfl, rfl, Below.refl _ _⟩
              · intro hd
                have h41 : f 153 = .bool true := hd 41 (List.mem_of_elem_eq_true (by kernel_rfl)) _ _ rfl rfl
                have h44 : f 156 = .bool true := hd 44 (List.mem_of_elem_eq_true (by kernel_rfl)) _ _ rfl rfl
                simp only [h41, h44]
                clear hd
                gi_wp2
                exact ⟨rfl, .bool true, rfl, rfl, Below.refl _ _⟩
              · intro hd
                have h45 : f 157 = .bool true := hd 45 (List.mem_of_elem_eq_true (by kernel_rfl)) _ _ rfl rfl
                simp only [h45]
                clear hd
                gi_wp2
                exact ⟨rfl, .bool true, rfl, rfl, Below.refl _ _⟩
              · intro hd
                have h46 : f 158 = .bool true := hd 46 (List.mem_of_elem_eq_true (by kernel_rfl)) _ _ rfl rfl
                simp only [h46]
                clear hd
                gi_wp2
                exact ⟨rfl, .slice (some al) 1 cl, rfl, rfl, Below.refl _ _⟩
              · intro hd
                have h46 : f 158 = .bool true := hd 46 (List.mem_of_elem_eq_true (by kernel_rfl)) _ _ rfl rfl
                have h47 : f 159 = .slice (some al) 1 cl := hd 47 (List.mem_of_elem_eq_true (by kernel_rfl)) _ _ rfl rfl
                simp only [h46, h47]
                clear hd
                gi_wp2
                exact ⟨rfl, .int .i64 1, rfl, rfl, Below.refl _ _⟩
              · intro hd
                have h46 : f 158 = .bool true := hd 46 (List.mem_of_elem_eq_true (by kernel_rfl)) _ _ rfl rfl
                have h48 : f 160 = .int .i64 1 := hd 48 (List.mem_of_elem_eq_true (by kernel_rfl)) _ _ rfl rfl
                simp only [h46, h48]
                clear hd
                gi_wp2
                exact ⟨rfl, .bool true, rfl, rfl, Below.refl _ _⟩
              · intro hd
                have h46 : f 158 = .bool true := hd 46 (List.mem_of_elem_eq_true (by kernel_rfl)) _ _ rfl rfl
                have h49 : f 161 = .bool true := hd 49 (List.mem_of_elem_eq_true (by kernel_rfl)) _ _ rfl rfl
                simp only [h46, h49]
                clear hd
                gi_wp2
                exact ⟨rfl, .bool true, rfl, rfl, Below.refl _ _⟩
              · intro hd
                have h50 : f 162 = .bool true := hd 50 (List.mem_of_elem_eq_true (by kernel_rfl)) _ _ rfl rfl
                simp only [h50]
                clear hd
                gi_wp2
                exact ⟨rfl, .bool true, rfl, rfl, Below.refl _ _⟩
              · intro hd
                have h51 : f 163 = .bool true := hd 51 (List.mem_of_elem_eq_true (by kernel_rfl)) _ _ rfl rfl
                simp only [h51]
                clear hd
                gi_wp2
                exact ⟨rfl, .slice (some al) 1 cl, rfl, rfl, Below.refl _ _⟩
              · intro hd
                have h51 : f 163 = .bool true := hd 51 (List.mem_of_elem_eq_true (by kernel_rfl)) _ _ rfl rfl
                have h52 : f 164 = .slice (some al) 1 cl := hd 52 (List.mem_of_elem_eq_true (by kernel_rfl)) _ _ rfl rfl
                simp only [h51, h52]
                clear hd
                gi_wp2
                exact ⟨rfl, .pointer (some al), rfl, rfl, Below.refl _ _⟩
              · intro hd
                have h51 : f 163 = .bool true := hd 51 (List.mem_of_elem_eq_true (by kernel_rfl)) _ _ rfl rfl
                have h53 : f 165 = .pointer (some al) := hd 53 (List.mem_of_elem_eq_true (by kernel_rfl)) _ _ rfl rfl
                simp only [h51, h53]
                clear hd
                gi_wp2
                exact ⟨rfl, .string (secS 120), rfl, rfl, Below.refl _ _⟩
              · intro hd
                have h51 : f 163 = .bool true := hd 51 (List.mem_of_elem_eq_true (by kernel_rfl)) _ _ rfl rfl
                simp only [h51]
                clear hd
                gi_wp2_with (gi_at_call 21; refine (callsIn_wide.2 (sector_ref _ _)).mono ?_; rintro e w' ⟨rfl, hbm⟩)
                exact ⟨rfl, .string (secS 120), rfl, rfl, hbm⟩
              · intro hd
                have h51 : f 163 = .bool true := hd 51 (List.mem_of_elem_eq_true (by kernel_rfl)) _ _ rfl rfl
                have h54 : f 166 = .string (secS 120) := hd 54 (List.mem_of_elem_eq_true (by kernel_rfl)) _ _ rfl rfl
                have h55 : f 167 = .string (secS 120) := hd 55 (List.mem_of_elem_eq_true (by kernel_rfl)) _ _ rfl rfl
                simp only [h51, h54, h55]
                clear hd
                gi_wp2
                exact ⟨rfl, .bool true, rfl, rfl, Below.refl _ _⟩
              · intro hd
                have h51 : f 163 = .bool true := hd 51 (List.mem_of_elem_eq_true (by kernel_rfl)) _ _ rfl rfl
                have h56 : f 168 = .bool true := hd 56 (List.mem_of_elem_eq_true (by kernel_rfl)) _ _ rfl rfl
                simp only [h51, h56]
                clear hd
                gi_wp2
                exact ⟨rfl, .bool true, rfl, rfl, Below.refl _ _⟩
              · intro hd
                have h57 : f 169 = .bool true := hd 57 (List.mem_of_elem_eq_true (by kernel_rfl)) _ _ rfl rfl
                simp only [h57]
                clear hd
                gi_wp2
                exact ⟨rfl, .bool true, rfl, rfl, Below.refl _ _⟩
              · intro hd
                have h58 : f 170 = .bool true := hd 58 (List.mem_of_elem_eq_true (by kernel_rfl)) _ _ rfl rfl
                simp only [h58]
                clear hd
                gi_wp2
                exact ⟨rfl, .slice (some ak) 1 ck, rfl, rfl, Below.refl _ _⟩
              · intro hd
                have h58 : f 170 = .bool true := hd 58 (List.mem_of_elem_eq_true (by kernel_rfl)) _ _ rfl rfl
                have h59 : f 171 = .slice (some ak) 1 ck := hd 59 (List.mem_of_elem_eq_true (by kernel_rfl)) _ _ rfl rfl
                simp only [h58, h59]
                clear hd
                gi_wp2
                exact ⟨rfl, .int .i64 1, rfl, rfl, Below.refl _ _⟩
              · intro hd
                have h58 : f 170 = .bool true := hd 58 (List.mem_of_elem_eq_true (by kernel_rfl)) _ _ rfl rfl
                have h60 : f 172 = .int .i64 1 := hd 60 (List.mem_of_elem_eq_true (by kernel_rfl)) _ _ rfl rfl
                simp only [h58, h60]
                clear hd
                gi_wp2
                exact ⟨rfl, .bool true, rfl, rfl, Below.refl _ _⟩
              · intro hd
                have h58 : f 170 = .bool true := hd 58 (List.mem_of_elem_eq_true (by kernel_rfl)) _ _ rfl rfl
                have h61 : f 173 = .bool true := hd 61 (List.mem_of_elem_eq_true (by kernel_rfl)) _ _ rfl rfl
                simp only [h58, h61]
                clear hd
                gi_wp2
                exact ⟨rfl, .bool true, rfl, rfl, Below.refl _ _⟩
              · intro hd
                have h62 : f 174 = .bool true := hd 62 (List.mem_of_elem_eq_true (by kernel_rfl)) _ _ rfl rfl
                simp only [h62]
                clear hd
                gi_wp2
                exact ⟨rfl, .bool true, rfl, rfl, Below.refl _ _⟩
              · intro hd
                have h63 : f 175 = .bool true := hd 63 (List.mem_of_elem_eq_true (by kernel_rfl)) _ _ rfl rfl
                simp only [h63]
                clear hd
                gi_wp2
                exact ⟨rfl, .slice (some ak) 1 ck, rfl, rfl, Below.refl _ _⟩
              · intro hd
                have h63 : f 175 = .bool true := hd 63 (List.mem_of_elem_eq_true (by kernel_rfl)) _ _ rfl rfl
                have h64 : f 176 = .slice (some ak) 1 ck := hd 64 (List.mem_of_elem_eq_true (by kernel_rfl)) _ _ rfl rfl
                simp only [h63, h64]
                clear hd
                gi_wp2
                exact ⟨rfl, .pointer (some ak), rfl, rfl, Below.refl _ _⟩
              · intro hd
                have h63 : f 175 = .bool true := hd 63 (List.mem_of_elem_eq_true (by kernel_rfl)) _ _ rfl rfl
                have h65 : f 177 = .pointer (some ak) := hd 65 (List.mem_of_elem_eq_true (by kernel_rfl)) _ _ rfl rfl
                simp only [h63, h65]
                clear hd
                gi_wp2
                exact ⟨rfl, .string (secS 97), rfl, rfl, Below.refl _ _⟩
              · intro hd
                have h63 : f 175 = .bool true := hd 63 (List.mem_of_elem_eq_true (by kernel_rfl)) _ _ rfl rfl
                simp only [h63]
                clear hd
                gi_wp2_with (gi_at_call 21; refine (callsIn_wide.2 (sector_ref _ _)).mono ?_; rintro e w' ⟨rfl, hbm⟩)
                exact ⟨rfl, .string (secS 97), rfl, rfl, hbm⟩
              · intro hd
                have h63 : f 175 = .bool true := hd 63 (List.mem_of_elem_eq_true (by kernel_rfl)) _ _ rfl rfl
                have h66 : f 178 = .string (secS 97) := hd 66 (List.mem_of_elem_eq_true (by kernel_rfl)) _ _ rfl rfl
                have h67 : f 179 = .string (secS 97) := hd 67 (List.mem_of_elem_eq_true (by kernel_rfl)) _ _ rfl rfl
                simp only [h63, h66, h67]
                clear hd
                gi_wp2
                exact ⟨rfl, .bool true, rfl, rfl, Below.refl _ _⟩
              · intro hd
                have h63 : f 175 = .bool true := hd 63 (List.mem_of_elem_eq_true (by kernel_rfl)) _ _ rfl rfl
                have h68 : f 180 = .bool true := hd 68 (List.mem_of_elem_eq_true (by kernel_rfl)) _ _ rfl rfl
                simp only [h63, h68]
                clear hd
                gi_wp2
                exact ⟨rfl, .bool true, rfl, rfl, Below.refl _ _⟩
              · intro hd
                have h69 : f 181 = .bool true := hd 69 (List.mem_of_elem_eq_true (by kernel_rfl)) _ _ rfl rfl
                simp only [h69]
                clear hd
                gi_wp2
                exact ⟨rfl, .bool true, rfl, rfl, Below.refl _ _⟩
              · intro hd
                have h70 : f 182 = .bool true := hd 70 (List.mem_of_elem_eq_true (by kernel_rfl)) _ _ rfl rfl
                simp only [h70]
                clear hd
                gi_wp2_with fail
                refine (callsIn_wide.2 (whole_calls 9000 _)).mono ?_
                rintro e w9 ⟨v, rfl, hR, hbm⟩
                dsimp only at hR ⊢
                obtain ⟨Aw, cw, hv, _, _⟩ := Kd.R_reads hR
                rw [known_w] at hv
                subst hv
                gi_wp2
                exact ⟨rfl, .agg #[.slice Aw 4096 cw, .int .i64 (-1), .int .i64 0], rfl, ⟨Aw, cw, rfl⟩, hbm⟩
              · intro hd
                have h70 : f 182 = .bool true := hd 70 (List.mem_of_elem_eq_true (by kernel_rfl)) _ _ rfl rfl
                obtain ⟨A, c, h71⟩ : ∃ A c, f 183 = .agg #[.slice A 4096 c, .int .i64 (-1), .int .i64 0] := hd 71 (List.mem_of_elem_eq_true (by kernel_rfl)) _ _ rfl rfl
                simp only [h70, h71]
                clear hd
                gi_wp2
                rename_i K hK
                exact hK _ _ ⟨rfl, .slice A 4096 c, rfl, ⟨A, c, rfl⟩, Below.refl _ _⟩
              · intro hd
                have h70 : f 182 = .bool true := hd 70 (List.mem_of_elem_eq_true (by kernel_rfl)) _ _ rfl rfl
                obtain ⟨A, c, h72⟩ : ∃ A c, f 184 = .slice A 4096 c := hd 72 (List.mem_of_elem_eq_true (by kernel_rfl)) _ _ rfl rfl
                simp only [h70, h72]
                clear hd
                gi_wp2
                exact ⟨rfl, .int .i64 4096, rfl, rfl, Below.refl _ _⟩
              · intro hd
                have h70 : f 182 = .bool true := hd 70 (List.mem_of_elem_eq_true (by kernel_rfl)) _ _ rfl rfl
                have h73 : f 185 = .int .i64 4096 := hd 73 (List.mem_of_elem_eq_true (by kernel_rfl)) _ _ rfl rfl
                simp only [h70, h73]
                clear hd
                gi_wp2
                exact ⟨rfl, .bool true, rfl, rfl, Below.refl _ _⟩
              · intro hd
                have h70 : f 182 = .bool true := hd 70 (List.mem_of_elem_eq_true (by kernel_rfl)) _ _ rfl rfl
                have h74 : f 186 = .bool true := hd 74 (List.mem_of_elem_eq_true (by kernel_rfl)) _ _ rfl rfl
                simp only [h70, h74]
                clear hd
                gi_wp2
                exact ⟨rfl, .bool true, rfl, rfl, Below.refl _ _⟩
              · intro hd
                have h75 : f 187 = .bool true := hd 75 (List.mem_of_elem_eq_true (by kernel_rfl)) _ _ rfl rfl
                simp only [h75]
                clear hd
                gi_wp2
                exact ⟨rfl, .bool true, rfl, rfl, Below.refl _ _⟩
            case ends2 =>
              intro f w' hb hr
              subst hKV
              have h0 : f 0 = .bool true := hr 76 (by decide) _ _ rfl rfl
              simp only [relFrame, fillT, List.map_cons, List.map_nil, Option.getD_some, List.setIfInBounds_toArray, List.set_cons_zero, List.set_cons_succ, h0]
              replace hbv := Lib.hid (below_then hbv hbv.size hb)
              clear hr hb
              gi_wp2
              exact ⟨rfl, _, results_tmp rfl _ _ _, rfl, hbv.out⟩
end Go.Proofs.Ytknibnbepmdapaa
