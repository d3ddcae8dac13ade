/-
Small laws that several texts share: the reads' contracts; what stands in a sector.
-/
import Derived.Test.YtknibnbepmdapaaGg
import Derived.Test.YtknibnbepmdapaaHb
namespace Go.Proofs.Ytknibnbepmdapaa
open Go.RowKit Go.Shelf Go.Proofs.YtknibnbepmdapaaW.PrintWords Go.Proofs.Ytknibnbepmdapaa.PFate

theorem w64_succ (n : Nat) (h : n < 9223372036854775807) : wrap64 ((n : Int) + 1) = ((n + 1 : Nat) : Int) := by unfold wrap64; omega

theorem take_step {α : Type} (l : List α) (d : α) {i : Nat} (h : i < l.length) : l.take (i + 1) = l.take i ++ [l.getD i d] := by
  rw [List.take_add_one, List.getD_eq_getElem?_getD, List.getElem?_eq_getElem h]; rfl

theorem read_calls (A : Option Addr) (c0 : Nat) (cs : List Int) (n : Int) (w : World) (hr : Kd.C (Kd.int .u8) w A cs.length cs) (hc0 : cs.length ≤ c0) (hbyte : Bytes cs) :
    Calls Try.prog 22 #[.slice A cs.length c0, .int .i64 n] w (ReadPost w (fateRead cs n)) := (callsIn_wide (n := 9)).1 (read_in A c0 cs n w hr hc0 hbyte)

theorem readRef_calls (A : Option Addr) (c0 : Nat) (cs : List Int) (n : Int) (w : World) (hr : Kd.C (Kd.int .u8) w A cs.length cs) (hbyte : Bytes cs) :
    Calls Try.prog 15 #[.slice A cs.length c0, .int .i64 n] w (ReadPost w (fateRead cs n)) := by
  rw [← refRead_eq hbyte]; exact refRead_calls A c0 cs n w hr hbyte

theorem layAt_torn (t a : Int) (i : Int) (data old : ByteArray) (hi : i = t) (ha : 0 ≤ a ∧ a ≤ 256) (hd : data.size = 256) : layAt t a i data old = data.extract 0 a.toNat ++ old.extract a.toNat old.size := by
  unfold layAt
  rw [if_pos hi, show (min (max a 0) 256).toNat = a.toNat by omega, overlay_eq, extract_size, hd, show min a.toNat 256 = a.toNat by omega]

theorem layAt_whole (t a : Int) (i : Int) (data old : ByteArray) (hi : ¬ i = t) (hd : data.size = 256) (ho : old.size = 256) : layAt t a i data old = data := by
  unfold layAt
  rw [if_neg hi, overlay_whole _ _ (by omega)]

theorem getD_set_ne (l : List ByteArray) {i k : Nat} (h : i ≠ k) (v : ByteArray) : (l.set i v).getD k ByteArray.empty = l.getD k ByteArray.empty := by
  rw [List.getD_eq_getElem?_getD, List.getElem?_set_ne h, ← List.getD_eq_getElem?_getD]
theorem getD_set_self (l : List ByteArray) {k : Nat} (h : k < l.length) (v : ByteArray) : (l.set k v).getD k ByteArray.empty = v := by
  rw [List.getD_eq_getElem?_getD, List.getElem?_set_self h]; rfl

/-- What stands in the sector k behind the writes ahead of i. -/
def stands (S : List ByteArray) (W : List S43) (C : List Bool) (t a : Int) (k i : Nat) : ByteArray := (afterFold W t a S (cameL C i)).getD k ByteArray.empty

section
variable (S : List ByteArray) (W : List S43) (C : List Bool) (t a : Int)

theorem stands_size (hS : All256 S) (k i : Nat) (hk : k < S.length) : (stands S W C t a k i).size = 256 := by
  unfold stands
  have hl := afterFold_length W t a (cameL C i) S
  rw [List.getD_eq_getElem?_getD, List.getElem?_eq_getElem (by omega), Option.getD_some]
  exact afterFold_all W t a (cameL C i) S hS _ (List.getElem_mem _)

theorem stands_no (k i : Nat) (hc : C.getD i false = false) : stands S W C t a k (i + 1) = stands S W C t a k i := by
  unfold stands; rw [cameL_no C hc]

theorem stands_yes (hC : C.length = W.length) (k i : Nat) (hk : k < S.length) (hi : i < W.length) (hc : C.getD i false = true) :
    stands S W C t a k (i + 1) = if (rd_T43 W i).f0 = k ∧ (rd_T43 W i).f1.size = 256 then layAt t a i (rd_T43 W i).f1 (stands S W C t a k i) else stands S W C t a k i := by
  obtain ⟨hl, e⟩ := cameL_yes C (show i < C.length by omega) hc
  have hln := afterFold_length W t a (cameL C i) S
  unfold stands
  rw [e, afterFold_snoc]
  generalize afterFold W t a S (cameL C i) = out at *
  show (afterStep W t a out i).getD k ByteArray.empty = _
  unfold afterStep
  by_cases h : (rd_T43 W i).f0 = k ∧ (rd_T43 W i).f1.size = 256
  · rw [if_pos h, if_pos ⟨hi, by omega, by omega, h.2⟩, h.1, Int.toNat_natCast, getD_set_self _ (by omega)]
  · rw [if_neg h]
    split
    · rename_i h2
      exact getD_set_ne _ (fun e => h ⟨by omega, h2.2.2.2⟩) _
    · rfl

end
end Go.Proofs.Ytknibnbepmdapaa
