/-
Sectors of one letter; what After does to them, in plain words.
-/
import Derived.Test.YtknibnbepmdapaaGb
import Derived.Test.YtknibnbepmdapaaGe
import Derived.Test.YtknibnbepmdapaaPFatePutsx5
namespace Go.Proofs.Ytknibnbepmdapaa
open Go.RowKit Go.Shelf Go.Proofs.YtknibnbepmdapaaW.PrintWords Go.Proofs.YtknibnbepmdapaaW.PrintMore

def secS (a : Int) : ByteArray := strOfNums (List.replicate 256 a)
theorem secS_size (a : Int) : (secS a).size = 256 := by unfold secS; rw [strOfNums_size, List.length_replicate]

theorem rep_set (a : Int) (j d : Nat) : (List.replicate j a ++ List.replicate (d + 1) 0).set j a = List.replicate (j + 1) a ++ List.replicate d 0 := by
  rw [List.set_append_right _ _ (by simp), List.length_replicate, Nat.sub_self, List.replicate_succ, List.set_cons_zero, List.replicate_succ', List.append_assoc]
  rfl

theorem sector_l0 (a : Int) : ∀ (d m j : Nat), j + d = 256 → d < m → PFatePuts.foyerlaw04_sector.l0 m a (List.replicate j a ++ List.replicate d 0) (j : Int) = some (secS a)
  | d, 0, j, _, h => by omega
  | 0, m + 1, j, hj, _ => by
    obtain rfl : j = 256 := by omega
    unfold PFatePuts.foyerlaw04_sector.l0
    rw [if_neg (by rw [List.length_append, List.length_replicate, List.length_replicate]; decide), List.replicate_zero, List.append_nil]
    rfl
  | d + 1, m + 1, j, hj, h => by
    have ih := sector_l0 a d m (j + 1) (by omega) (by omega)
    have hw : wrap64 ((j : Int) + 1) = ((j + 1 : Nat) : Int) := by unfold wrap64; omega
    unfold PFatePuts.foyerlaw04_sector.l0
    rw [if_pos (by rw [List.length_append, List.length_replicate, List.length_replicate]; omega), if_pos (by omega), hw, Int.toNat_natCast, rep_set]
    exact ih

theorem sector_ref (a : Int) (w : World) : Calls Try.prog 21 #[.int .u8 a] w fun e w' => e = .returned (.string (secS a)) ∧ Below w.heap.size w w' :=
  PFatePuts.foyerlaw04_sector.calls 257 a (secS a) w (by
    unfold PFatePuts.foyerlaw04_sector.f
    rw [if_pos (by omega)]
    exact sector_l0 a 256 257 0 (by omega) (by omega))

theorem ofNat_byte (b : UInt8) : UInt8.ofNat ((b.toNat : Int)).toNat = b := by simp

theorem strOfNums_bytesOf (s : ByteArray) : strOfNums (bytesOf s) = s := by
  unfold strOfNums bytesOf
  rw [List.map_map]
  have : ((fun n : Int => UInt8.ofNat n.toNat) ∘ fun b : UInt8 => (b.toNat : Int)) = id := by funext b; simp
  rw [this, List.map_id]

theorem strOfNums_inj (a b : List Int) (h : a = b) : strOfNums a = strOfNums b := by rw [h]

theorem bytesOf_strOfNums (xs : List Int) (h : ∀ x ∈ xs, 0 ≤ x ∧ x < 256) : bytesOf (strOfNums xs) = xs := by
  unfold bytesOf
  rw [strOfNums_data, List.map_map]
  conv => rhs; rw [← List.map_id xs]
  apply List.map_congr_left
  intro x hx
  have := h x hx
  simp only [Function.comp, id]
  rw [UInt8.toNat_ofNat']
  omega

theorem bytesOf_inj {a b : ByteArray} (h : bytesOf a = bytesOf b) : a = b := by rw [← strOfNums_bytesOf a, ← strOfNums_bytesOf b, h]

theorem bytesOf_extract (s : ByteArray) (i j : Nat) : bytesOf (s.extract i j) = ((bytesOf s).take j).drop i := by
  unfold bytesOf
  rw [← List.map_take, ← List.map_drop]
  congr 1
  simp [ByteArray.data_extract, List.drop_take]

theorem bytesOf_append (a b : ByteArray) : bytesOf (a ++ b) = bytesOf a ++ bytesOf b := by
  unfold bytesOf
  rw [← List.map_append]
  congr 1

theorem bytesOf_secS (a : Int) (h : 0 ≤ a ∧ a < 256) : bytesOf (secS a) = List.replicate 256 a := bytesOf_strOfNums _ (fun x hx => by rw [List.mem_replicate] at hx; rw [hx.2]; exact h)

theorem bytesOf_bytes (s : ByteArray) : ∀ x ∈ bytesOf s, 0 ≤ x ∧ x < 256 := by
  intro x hx
  unfold bytesOf at hx
  obtain ⟨b, _, rfl⟩ := List.mem_map.1 hx
  have := b.toNat_lt
  omega

theorem bytesOf_overlay (d old : ByteArray) : bytesOf (overlay d old) = bytesOf d ++ (bytesOf old).drop d.size :=
  bytesOf_strOfNums _ fun x hx => by
    rcases List.mem_append.1 hx with h | h
    · exact bytesOf_bytes _ x h
    · exact bytesOf_bytes _ x (List.mem_of_mem_drop h)

/-- What is laid over, in plain words. -/
theorem overlay_eq (d old : ByteArray) : overlay d old = d ++ old.extract d.size old.size := by
  apply bytesOf_inj
  rw [bytesOf_overlay, bytesOf_append, bytesOf_extract, List.take_of_length_le (by rw [bytesOf_length]; exact Nat.le_refl _)]

theorem overlay_whole (d old : ByteArray) (h : old.size = d.size) : overlay d old = d := by
  apply bytesOf_inj
  rw [bytesOf_overlay, List.drop_of_length_le (by rw [bytesOf_length]; omega), List.append_nil]
end Go.Proofs.Ytknibnbepmdapaa
