/-
Small plain facts for fate.Read: bits of bytes, slices from a place, blocks read as lists.
-/
import Derived.Test.YtknibnbepmdapaaFc
namespace Go.Proofs.Ytknibnbepmdapaa
open Go.RowKit Go.Shelf Go.Proofs.YtknibnbepmdapaaW.PrintWords

theorem run_bytes_from (A : Option Addr) (len c m : Nat) (hm : m ≤ len) (w : World) :
    (Instr.sliceAt 25 (.slice A len c) (some (.int .i64 (m : Int))) none none).run Try.prog w = .ok (.slice (if c = m then A else A.map (·.add (m * 1))) (len - m) (c - m)) w := by
  have h1 : (m : Int) ≤ len := by omega
  by_cases hcm : c = m
  · simp [go_sem, h1, hcm, Try.underlying25]
  · simp [go_sem, h1, hcm, Try.underlying25]

theorem ofInt64 (n : Nat) (h : n < 2 ^ 64) : (BitVec.ofInt 64 (n : Int)).toNat = n := by
  rw [BitVec.toNat_ofInt]
  have : ((n : Int) % ((2 ^ 64 : Nat) : Int)) = n := Int.emod_eq_of_lt (by omega) (by omega)
  rw [this]
  rfl

theorem wrap_i64_nat (n : Nat) (h : n < 2 ^ 63) : IntKind.i64.wrap (n : Int) = (n : Int) := by
  have e : (n : Int) % 2 ^ 64 = n := Int.emod_eq_of_lt (by omega) (by omega)
  simp only [IntKind.wrap, IntKind.bits, IntKind.signed, e]
  rw [if_neg]
  simp
  omega

/-- Two bytes, the higher first. -/
theorem or16 (a b : Int) (ha : 0 ≤ a ∧ a < 256) (hb : 0 ≤ b ∧ b < 256) : bits .or .i64 (a * 256) b = a * 256 + b := by
  obtain ⟨A, rfl⟩ := Int.eq_ofNat_of_zero_le ha.1
  obtain ⟨B, rfl⟩ := Int.eq_ofNat_of_zero_le hb.1
  have e : ((A : Int) * 256) = ((A * 256 : Nat) : Int) := by simp
  rw [e]
  show IntKind.i64.wrap ((BitVec.ofInt 64 ((A * 256 : Nat) : Int) ||| BitVec.ofInt 64 (B : Int)).toNat : Int) = _
  rw [BitVec.toNat_or, ofInt64 _ (by omega), ofInt64 _ (by omega)]
  have h := Nat.shiftLeft_add_eq_or_of_lt (a := A) (show B < 2 ^ 8 by omega)
  rw [Nat.shiftLeft_eq] at h
  rw [show A * 256 = A * 2 ^ 8 by rfl, ← h, wrap_i64_nat _ (by omega)]
  omega

theorem Blk.reads {α : Type} {enc : α → Value} {h1 : ∀ x, (enc x).oneCell' = true} {w : World} {g : Nat} {e : TypeId} {xs : List α} (h : Blk w g e (encV enc xs)) (hm : xs.length ≤ maxLen) :
    (Kd.scalar enc h1).C w (some ⟨g, 0, none⟩) xs.length xs :=
  (Kd.R_reads' (ok := fun _ => True) (Kd.R_of_own (h.owns (base := 0) (Nat.zero_le _) hm) (fun _ _ => trivial))).2.2

theorem byte_at {w : World} {A : Option Addr} {n : Nat} {l : List Int} (h : Kd.C (Kd.int .u8) w A n l) {k : Nat} (hk : k < n) :
    ∃ ad, A = some ad ∧ ad.block < w.heap.size ∧ w.cell? (ad.add k) = some (.int .u8 (l.getD k 0)) := by
  obtain ⟨ad, c, hA, hl, hK, hcell⟩ := Kd.C_get h 0 (k : Int) (by omega) (by omega)
  have hcv : c = [.int .u8 (l.getD k 0)] := by have := hK; rw [Int.toNat_natCast] at this; exact this
  subst hcv
  have h0 := hcell 0 _ rfl
  rw [Int.toNat_natCast, show k * (Kd.int .u8).sz + 0 = k from by show k * 1 + 0 = k; omega] at h0
  exact ⟨ad, hA, by have := World.block_lt_of_cell? _ _ h0; rwa [add_block] at this, h0⟩

/-- A result that lies whole in a block. -/
theorem results_blk {fn : Func} {p : Tmp} {ty : TypeId} {P : Program} {w : World} {g : Nat} {cs : Array Value} {tmps : Array Value} {fs : Array Field} (h : fn.results = #[.cell p ty])
    (hp : tmps.getD p undef = .pointer (some ⟨g, 0, none⟩)) (hb : Blk w g ty cs) (hu : P.underlying ty = some (.struct fs)) (hi : (P.info? ty).map (·.size) = some cs.size) :
    (results fn tmps).run P w = .ok (.agg cs) w := by
  have := run_loadVar_row (P := P) w g ty ty cs (0, 0) (.struct fs) hb hu rfl hi
  rw [Array.getD_eq_getD_getElem?] at hp
  simp only [results, h]
  simp [hp, asAddr, this]

/-- Which write is torn: the one ahead of which so many came. -/
def tornOf {N : Nat} (t : Int) (xs : List (Fin N × Fin N)) : Int := xs.foldl (fun r x => if (x.1.val : Int) = t then (x.2.val : Int) else r) (-1)

theorem tornOf_snoc {N : Nat} (t : Int) (xs : List (Fin N × Fin N)) (x : Fin N × Fin N) : tornOf t (xs ++ [x]) = if (x.1.val : Int) = t then (x.2.val : Int) else tornOf t xs := by simp [tornOf]

end Go.Proofs.Ytknibnbepmdapaa
