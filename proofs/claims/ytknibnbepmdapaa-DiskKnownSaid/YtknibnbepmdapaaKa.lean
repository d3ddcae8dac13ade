/-
Sectors and writes, as the statements draw them: what they are.
-/
import Derived.Deep.Slices
import Derived.Deep.Strs
import Derived.OpenShut
import Derived.Test.YtknibnbepmdapaaPFatex3
import Derived.Test.YtknibnbepmdapaaIa
namespace Go.Proofs.Ytknibnbepmdapaa
open Go.RowKit Go.Shelf Go.Proofs.YtknibnbepmdapaaW.PrintWords Go.Proofs.YtknibnbepmdapaaW.PrintMore Go.Proofs.Ytknibnbepmdapaa.PFate

theorem upTo {α : Type} (f : Nat → Option α) (h : ∀ k, LeO (f k) (f (k + 1))) {k k' : Nat} {r : α} (hk : k ≤ k') (e : f k = some r) : f k' = some r := by
  obtain ⟨d, rfl⟩ : ∃ d, k' = k + d := ⟨k' - k, by omega⟩
  clear hk
  induction d with
  | zero => exact e
  | succ d ih => exact h _ _ ih

theorem sectorP_l0 (a : Int) : ∀ (d m j : Nat), j + d = 256 → d < m → foyerlaw04_sector.l0 m a (List.replicate j a ++ List.replicate d 0) (j : Int) = some (secS a)
  | d, 0, j, _, h => by omega
  | 0, m + 1, j, hj, _ => by
    obtain rfl : j = 256 := by omega
    rw [foyerlaw04_sector.l0]
    rw [if_neg (by rw [List.length_append, List.length_replicate, List.length_replicate]; decide), List.replicate_zero, List.append_nil]
    rfl
  | d + 1, m + 1, j, hj, h => by
    have ih := sectorP_l0 a d m (j + 1) (by omega) (by omega)
    rw [foyerlaw04_sector.l0]
    rw [if_pos (by rw [List.length_append, List.length_replicate, List.length_replicate]; omega), if_pos (by omega), w64_succ _ (by omega), Int.toNat_natCast, rep_set]
    exact ih

theorem sectorP (a : Int) {k : Nat} (hk : 257 ≤ k) : foyerlaw04_sector.f k a = some (secS a) := by
  refine upTo (fun k => foyerlaw04_sector.f k a) (foyerlaw04_sector.mono a) hk ?_
  unfold foyerlaw04_sector.f
  rw [if_pos (by omega)]
  exact sectorP_l0 a 256 257 0 (by omega) (by omega)

/-- The drawn sectors. -/
def secsOf (l : List Int) : List ByteArray := (l.take 8).map secS

theorem take_step {α : Type} (l : List α) (d : α) {i : Nat} (h : i < l.length) : l.take (i + 1) = l.take i ++ [l.getD i d] := by
  rw [List.take_add_one, List.getD_eq_getElem?_getD, List.getElem?_eq_getElem h]; rfl

theorem sectors_l0 (l : List Int) : ∀ d i, i + d = min l.length 8 → ∃ k, 257 ≤ k ∧ foyerlaw04_sectors.l0 k l ((l.take i).map secS) (i : Int) = some (secsOf l)
  | 0, i, hi => by
    refine ⟨257 + 1, by omega, ?_⟩
    rw [foyerlaw04_sectors.l0]
    unfold secsOf
    by_cases h : l.length ≤ 8
    · rw [if_neg (by omega), show i = l.length by omega, List.take_of_length_le (Nat.le_refl _), List.take_of_length_le (by omega)]
    · rw [if_pos (by omega), if_neg (by omega), show i = 8 by omega]
  | d + 1, i, hi => by
    obtain ⟨k, hk7, hk⟩ := sectors_l0 l d (i + 1) (by omega)
    refine ⟨k + 1, by omega, ?_⟩
    rw [foyerlaw04_sectors.l0]
    have hrd : rd l (i : Int) = l.getD i 0 := by unfold rd; rw [Int.toNat_natCast]
    rw [if_pos (by omega), if_pos (by omega), if_pos (by omega), hrd, sectorP _ hk7, Option.bind_some, if_pos (by rw [List.length_map, List.length_take]; omega), w64_succ _ (by omega)]
    rw [take_step l 0 (by omega), List.map_append] at hk
    exact hk

theorem sectorsP (l : List Int) : ∃ k, foyerlaw04_sectors.f k l = some (secsOf l) := by
  obtain ⟨k, _, hk⟩ := sectors_l0 l (min l.length 8) 0 (by omega)
  exact ⟨k, hk⟩

def Lay8 (x : S88) : Prop := (0 ≤ x.f0 ∧ x.f0 < 256) ∧ (0 ≤ x.f1 ∧ x.f1 < 256) ∧ (0 ≤ x.f2 ∧ x.f2 < 256)

/-- A drawn write. -/
def wrOf (x : S88) : S43 := ⟨x.f0 % 10 - 1, if x.f2 > 250 then (secS x.f1).extract 0 (256 - (x.f2 - 250)).toNat else secS x.f1⟩
def writesOf (l : List S88) : List S43 := (l.take 20).map wrOf

theorem writes_l0 (l : List S88) (hl : ∀ x ∈ l, Lay8 x) : ∀ d i, i + d = min l.length 20 → ∃ k, 257 ≤ k ∧ foyerlaw04_writes.l0 k l ((l.take i).map wrOf) (i : Int) = some (writesOf l)
  | 0, i, hi => by
    refine ⟨257 + 2, by omega, ?_⟩
    rw [foyerlaw04_writes.l0]
    unfold writesOf
    by_cases h : l.length ≤ 20
    · rw [show i = l.length by omega, List.take_of_length_le (Nat.le_refl _), List.take_of_length_le (by omega)]
      by_cases h' : (l.length : Int) < (l.length : Int)
      · omega
      · rw [if_neg h', foyerlaw04_writes.j1]
        rw [if_neg (by simp)]
    · rw [if_pos (by omega), show decide ((i : Int) < 20) = false by rw [decide_eq_false_iff_not]; omega, foyerlaw04_writes.j1]
      rw [if_neg (by simp), show i = 20 by omega]
  | d + 1, i, hi => by
    obtain ⟨k, hk7, hk⟩ := writes_l0 l hl d (i + 1) (by omega)
    refine ⟨k + 2, by omega, ?_⟩
    have hrd : rd_T88 l (i : Int) = l.getD i z88 := by unfold rd_T88; rw [Int.toNat_natCast]
    have hx : Lay8 (l.getD i z88) := by
      rw [List.getD_eq_getElem?_getD, List.getElem?_eq_getElem (show i < l.length by omega)]; exact hl _ (List.getElem_mem _)
    rw [take_step l z88 (by omega), List.map_append] at hk
    rw [foyerlaw04_writes.l0]
    rw [if_pos (by omega), show decide ((i : Int) < 20) = true by rw [decide_eq_true_eq]; omega, foyerlaw04_writes.j1]
    rw [if_pos rfl, if_pos (by omega), if_pos (by omega), hrd]
    generalize l.getD i z88 = x at *
    obtain ⟨⟨a0, a1⟩, ⟨b0, b1⟩, c0, c1⟩ := hx
    have hsz := secS_size x.f1
    have e0 : wrap64 ((wrap64 (Int.tmod x.f0 10)) - 1) = x.f0 % 10 - 1 := by rw [Int.tmod_eq_emod_of_nonneg a0]; unfold wrap64; omega
    have e2 : (256 - ((x.f2 - 250) % 256)) = if x.f2 > 250 then 256 - (x.f2 - 250) else (256 - ((x.f2 - 250) % 256)) := by split <;> omega
    rw [sectorP _ hk7, Option.bind_some, e0]
    by_cases h : x.f2 > 250
    · rw [if_pos h] at e2
      rw [if_pos h, e2, if_pos (by omega), if_pos (by omega), if_pos (by rw [List.length_map, List.length_take]; omega), w64_succ _ (by omega)]
      have : wrOf x = ⟨x.f0 % 10 - 1, (secS x.f1).extract 0 (256 - (x.f2 - 250)).toNat⟩ := by unfold wrOf; rw [if_pos h]
      rw [List.map_singleton, this] at hk
      exact hk
    · rw [if_neg h, if_pos (by rw [List.length_map, List.length_take]; omega), w64_succ _ (by omega)]
      have : wrOf x = ⟨x.f0 % 10 - 1, secS x.f1⟩ := by unfold wrOf; rw [if_neg h]
      rw [List.map_singleton, this] at hk
      exact hk

theorem writesP (l : List S88) (hl : ∀ x ∈ l, Lay8 x) : ∃ k, foyerlaw04_writes.f k l = some (writesOf l) := by
  obtain ⟨k, _, hk⟩ := writes_l0 l hl (min l.length 20) 0 (by omega)
  exact ⟨k, hk⟩

theorem secsOf_length (l : List Int) : (secsOf l).length ≤ 8 := by unfold secsOf; rw [List.length_map, List.length_take]; omega
theorem secsOf_all (l : List Int) : All256 (secsOf l) := fun s hs => by
  unfold secsOf at hs
  obtain ⟨x, _, rfl⟩ := List.mem_map.1 hs
  exact secS_size x
theorem writesOf_length (l : List S88) : (writesOf l).length ≤ 20 := by unfold writesOf; rw [List.length_map, List.length_take]; omega
end Go.Proofs.Ytknibnbepmdapaa
namespace Go.Proofs.Ytknibnbepmdapaa
open Go.ChangeShapes Go.WideShapes Go.Deep Go.RowKit
open Go.Proofs.YtknibnbepmdapaaW.PrintWords Go.Proofs.Ytknibnbepmdapaa.PFate

section
variable {H : Type} {enc : TypeId × Value → H} {w : World} {base : Nat} {held : Bool}

theorem cells88 : Try.prog.cellsOf 88 = 3 := by kernel_rfl
theorem cells5 : Try.prog.cellsOf 5 = 1 := by kernel_rfl

theorem drop_one (cs : List Value) (j : Nat) (h : j < cs.length) : (cs.drop j).take 1 = [cs[j]] := by rw [List.drop_eq_getElem_cons h]; rfl

theorem lay_cells {n : Nat} {cs : List Value} {x : DataW H × List MemPlace} (h : DataW.trod enc Try.prog w base (fun _ => true) held n 88 cs = some x) :
    ∃ y : S88, Lay8 y ∧ cs = [.int .u8 y.f0, .int .u8 y.f1, .int .u8 y.f2] := by
  obtain ⟨y0, y1, y2, m, _, hl, h0, h1, h2⟩ := trod_struct3 Try.underlying88 h
  rw [cells88] at hl
  rw [cells5, drop_one cs 0 (by omega)] at h0
  rw [cells5, drop_one cs 1 (by omega)] at h1
  rw [cells5, drop_one cs 2 (by omega)] at h2
  obtain ⟨a, ea, _, wa⟩ := DataW.trod_int Try.underlying5 h0
  obtain ⟨b, eb, _, wb⟩ := DataW.trod_int Try.underlying5 h1
  obtain ⟨c, ec, _, wc⟩ := DataW.trod_int Try.underlying5 h2
  match cs, hl, ea, eb, ec with
  | [c0, c1, c2], _, ea, eb, ec =>
    simp only [List.getElem_cons_zero, List.getElem_cons_succ, List.cons.injEq, and_true] at ea eb ec
    subst ea eb ec
    have := bounds_u8 wa
    have := bounds_u8 wb
    have := bounds_u8 wc
    exact ⟨⟨a, b, c⟩, ⟨⟨by show 0 ≤ a; omega, by show a < 256; omega⟩, ⟨by show 0 ≤ b; omega, by show b < 256; omega⟩, by show 0 ≤ c; omega, by show c < 256; omega⟩, rfl⟩

theorem open_lays {fuel : Nat} {v : Value} {x : DataW H × List MemPlace} (h : DataW.trod enc Try.prog w base (fun _ => true) held fuel 32 [v] = some x) :
    ∃ (A : Option Addr) (l : List S88) (c : Nat), v = .slice A l.length c ∧ Kd.C k88 w A l.length l ∧ l.length ≤ c ∧ ∀ y ∈ l, Lay8 y := by
  rcases open_slice Try.underlying32 h with ⟨hcs, _⟩ | ⟨a, len, cap, m, n, D, Pl, hcs, _, hl, hm, hmm, _, hi⟩
  · obtain rfl : v = .slice none 0 0 := by simpa using hcs
    exact ⟨none, [], 0, rfl, ⟨rfl, by decide, fun h => by simp at h⟩, Nat.le_refl _, fun y hy => by cases hy⟩
  · obtain rfl : v = .slice (some a) len cap := by simpa using hcs
    simp only [if_true] at hmm
    haveI : Inhabited S88 := ⟨z88⟩
    obtain ⟨Y, hY⟩ := choose_lt (α := S88) (p := fun i y => Lay8 y ∧ ∀ j u, [Value.int .u8 y.f0, .int .u8 y.f1, .int .u8 y.f2][j]? = some u → w.cell? (a.add (i * 3 + j)) = some u) (n := len) (fun i hil => by
      obtain ⟨cs', hc, ht⟩ := hi i (by omega)
      obtain ⟨y, hy, rfl⟩ := lay_cells ht
      rw [cells88] at hc
      obtain ⟨_, _, hat⟩ := World.cells?_some hc
      refine ⟨y, hy, fun j u hu => ?_⟩
      have hj3 : j < 3 := (List.getElem?_eq_some_iff.1 hu).1
      rw [← Go.Deep.add_add, hat j hj3, hu])
    refine ⟨some a, (List.range len).map Y, cap, by simp, ⟨rfl, by unfold maxLen at hm; simp; omega, fun _ => ⟨a, rfl, fun j p hj => ?_⟩⟩, by simpa using hl, fun y hy => ?_⟩
    · have hjl : j < len := by have := (List.getElem?_eq_some_iff.1 hj).1; simpa using this
      have hp : p = Y j := by simp [hjl] at hj; exact hj.symm
      subst hp
      exact ⟨_, rfl, k88_mk w (Y j), fun i u hu => (hY j hjl).2 i u hu⟩
    · obtain ⟨j, hj, rfl⟩ := List.mem_map.1 hy
      exact (hY j (List.mem_range.1 hj)).1
end
end Go.Proofs.Ytknibnbepmdapaa

