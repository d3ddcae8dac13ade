/-
The document's Put: what it answers.
-/
import Derived.Test.YtknibnbepmdapaaHb
import Derived.Test.YtknibnbepmdapaaIa
import Derived.Test.YtknibnbepmdapaaFd
import Derived.Test.YtknibnbepmdapaaPFatePutsx2
namespace Go.Proofs.Ytknibnbepmdapaa
open Go.RowKit Go.Shelf Go.Proofs.YtknibnbepmdapaaW.PrintWords Go.Proofs.YtknibnbepmdapaaW.PrintMore

theorem add_all : ((List.range 256).all fun c => (List.range 8).all fun j => (bits .and .u8 (c : Int) (maskI j) != 0) || decide (((c : Int) + maskI j) % 256 = bits .or .u8 (c : Int) (maskI j))) = true := by kernel_rfl

theorem add_or (c : Int) (h : 0 ≤ c ∧ c < 256) (j : Nat) (hj : j < 8) (hb : (bits .and .u8 c (maskI j) != 0) = false) : (c + maskI j) % 256 = bits .or .u8 c (maskI j) := by
  obtain ⟨n, rfl⟩ := Int.eq_ofNat_of_zero_le h.1
  have h := List.all_eq_true.1 add_all n (List.mem_range.2 (by omega))
  have h := List.all_eq_true.1 h j (List.mem_range.2 hj)
  change (bits .and .u8 (n : Int) (maskI j) != 0 || decide (((n : Int) + maskI j) % 256 = bits .or .u8 (n : Int) (maskI j))) = true at h
  rw [hb, Bool.false_or, decide_eq_true_eq] at h
  exact h

theorem maskI_next (j : Nat) (h : j < 7) : (maskI j * 2) % 256 = maskI (j + 1) := by
  match j, h with
  | 0, _ => decide
  | 1, _ => decide
  | 2, _ => decide
  | 3, _ => decide
  | 4, _ => decide
  | 5, _ => decide
  | 6, _ => decide

theorem mayRef (C : List Bool) (torn at_ : Int) : PFatePuts.foyerref04_May.f C torn at_ = some (mayB C torn at_) := by
  unfold PFatePuts.foyerref04_May.f mayB
  by_cases h : torn = -1
  · rw [if_pos h, if_pos h]
  · rw [if_neg h, if_neg h]
    have hrd : rdOf false C torn = C.getD torn.toNat false := rfl
    rw [hrd]
    by_cases h0 : torn ≥ 0
    · rw [if_pos h0]
      by_cases h1 : torn < C.length
      · rw [if_pos h1, if_pos h0]
        by_cases h2 : C.getD torn.toNat false = true
        · rw [if_pos h2]
          by_cases h3 : at_ ≥ 0
          · rw [if_pos h3]
            congr 1
            rw [decide_eq_decide]
            constructor
            · intro h; exact ⟨h0, h1, h2, h3, h⟩
            · intro h; exact h.2.2.2.2
          · rw [if_neg h3]; congr 1; symm; rw [decide_eq_false_iff_not]; intro h; exact h3 h.2.2.2.1
        · rw [if_neg h2]; congr 1; symm; rw [decide_eq_false_iff_not]; intro h; exact h2 h.2.2.1
      · rw [if_neg h1]; congr 1; symm; rw [decide_eq_false_iff_not]; intro h; exact h1 h.2.1
    · rw [if_neg h0]; congr 1; symm; rw [decide_eq_false_iff_not]; intro h; exact h0 h.1

/-- What Put lays, where the fate may be and is not too long. -/
def putBits (C : List Bool) (torn at_ cnt : Int) : List Int × Int :=
  if 0 ≤ torn then (orBits ((C.length + 7) / 8) (cameL C C.length) ++ [cnt, at_ / 256, at_ % 256], 0) else (orBits ((C.length + 7) / 8) (cameL C C.length), 0)

section
variable (C : List Bool) (torn at_ cnt : Int) (hlen : C.length ≤ 4096) (hcnt : 0 ≤ cnt ∧ cnt < 128) (hat : 0 ≤ at_ ∧ at_ ≤ 256)
include hlen

theorem putRef_l2 (i : Nat) (hi : i < C.length) (B : List Int) (hB : B.length = (C.length + 7) / 8) (hby : Bytes B) (hbit : bitAt B i = false) (r : Option (List Int × Int))
    (hk : ∃ k, PFatePuts.foyerref04_Put.l1 k cnt (B.set (i / 8) (bits .or .u8 (B.getD (i / 8) 0) (maskI (i % 8)))) ((i + 1 : Nat) : Int) C torn at_ = r) :
    ∀ d j, j + d = i % 8 → ∃ k, PFatePuts.foyerref04_Put.l2 k cnt B (i : Int) (maskI j) (j : Int) C torn at_ = r
  | 0, j, hj => by
    obtain ⟨k, hk⟩ := hk
    obtain rfl : j = i % 8 := by omega
    refine ⟨k + 1, ?_⟩
    have hw : wrap64 (Int.tdiv (i : Int) 8) = ((i / 8 : Nat) : Int) := by
      rw [Int.tdiv_eq_ediv_of_nonneg (by omega)]; unfold wrap64; omega
    rw [PFatePuts.foyerref04_Put.l2]
    rw [if_neg (by rw [Int.tmod_eq_emod_of_nonneg (by omega)]; omega), hw, if_pos (by omega), if_pos (by omega), Int.toNat_natCast, w64_succ _ (by omega)]
    have hrd : rd B ((i / 8 : Nat) : Int) = B.getD (i / 8) 0 := by unfold rd; rw [Int.toNat_natCast]
    rw [hrd, add_or _ (hby.getD _) _ (by omega) hbit]
    exact hk
  | d + 1, j, hj => by
    obtain ⟨k, hk⟩ := putRef_l2 i hi B hB hby hbit r hk d (j + 1) (by omega)
    refine ⟨k + 1, ?_⟩
    rw [PFatePuts.foyerref04_Put.l2]
    rw [if_pos (by rw [Int.tmod_eq_emod_of_nonneg (by omega)]; omega), maskI_next _ (by omega), w64_succ _ (by omega)]
    exact hk

include hcnt hat in
theorem putRef_l1 : ∀ d i, i + d = C.length → ∃ k, PFatePuts.foyerref04_Put.l1 k cnt (orBits ((C.length + 7) / 8) (cameL C i)) (i : Int) C torn at_ = some (putBits C torn at_ cnt)
  | 0, i, hi => by
    obtain rfl : i = C.length := by omega
    have hol := orBits_length ((C.length + 7) / 8) (cameL C C.length)
    refine ⟨1, ?_⟩
    rw [PFatePuts.foyerref04_Put.l1]
    rw [if_neg (by omega)]
    unfold putBits
    have e1 : cnt % 256 = cnt := by omega
    have e2 : wrap64 (Int.tdiv at_ 256) % 256 = at_ / 256 := by rw [Int.tdiv_eq_ediv_of_nonneg hat.1]; unfold wrap64; omega
    have e3 : Int.tmod at_ 256 % 256 = at_ % 256 := by rw [Int.tmod_eq_emod_of_nonneg hat.1]; omega
    by_cases ht : 0 ≤ torn
    · rw [if_pos ht, if_pos ht, Option.bind_some, if_pos (by rw [hol]; simp; omega), e1, e2, e3]
    · rw [if_neg ht, if_neg ht]
  | d + 1, i, hi => by
    obtain ⟨k, hk⟩ := putRef_l1 d (i + 1) (by omega)
    obtain ⟨hby, hbits⟩ := orBits_bits C ((C.length + 7) / 8) (by omega) i (by omega)
    have hol := orBits_length ((C.length + 7) / 8) (cameL C i)
    have hrd : rdOf false C (i : Int) = C.getD i false := by simp [rdOf]
    cases hb : C.getD i false with
    | true =>
      obtain ⟨hl, e⟩ := cameL_yes C (show i < C.length by omega) hb
      have es : orBits ((C.length + 7) / 8) (cameL C (i + 1)) = (orBits ((C.length + 7) / 8) (cameL C i)).set (i / 8) (bits .or .u8 ((orBits ((C.length + 7) / 8) (cameL C i)).getD (i / 8) 0) (maskI (i % 8))) := by
        rw [e, orBits_snoc]; rfl
      rw [es] at hk
      obtain ⟨k2, hk2⟩ := putRef_l2 C torn at_ cnt hlen i (by omega) _ hol hby (by rw [hbits i (by omega)]; simp) _ ⟨k, hk⟩ (i % 8) 0 (by omega)
      refine ⟨k2 + 1, ?_⟩
      rw [PFatePuts.foyerref04_Put.l1]
      rw [if_pos (by omega), if_pos (by omega), hrd, hb, if_pos rfl]
      exact hk2
    | false =>
      rw [cameL_no C hb] at hk
      refine ⟨k + 1, ?_⟩
      rw [PFatePuts.foyerref04_Put.l1]
      rw [if_pos (by omega), if_pos (by omega), hrd, hb, if_neg (by simp), w64_succ _ (by omega)]
      exact hk
end

theorem putRef_j1 (C : List Bool) (torn at_ cnt : Int) (hlen : C.length ≤ 4096) (hcnt : 0 ≤ cnt ∧ cnt < 128) (hat : 0 ≤ at_ ∧ at_ ≤ 256) :
    ∃ k, PFatePuts.foyerref04_Put.j1 k cnt false C torn at_ = some (putBits C torn at_ cnt) := by
  obtain ⟨k, hk⟩ := putRef_l1 C torn at_ cnt hlen hcnt hat C.length 0 (by omega)
  refine ⟨k + 1, ?_⟩
  have hw : wrap64 (Int.tdiv (wrap64 ((C.length : Int) + 7)) 8) = (((C.length + 7) / 8 : Nat) : Int) := by
    rw [show wrap64 ((C.length : Int) + 7) = (C.length : Int) + 7 by unfold wrap64; omega, Int.tdiv_eq_ediv_of_nonneg (by omega)]; unfold wrap64; omega
  rw [PFatePuts.foyerref04_Put.j1]
  rw [if_neg (by simp), hw, if_pos (by omega), Int.toNat_natCast, if_pos (by omega)]
  exact hk

theorem putRef_l0 (C : List Bool) (torn at_ : Int) (hmx : C.length ≤ 1000000) (hmay : mayB C torn at_ = true) : ∀ (d i : Nat), (i : Int) + d = max torn 0 → ∃ k, PFatePuts.foyerref04_Put.l0 k ((cameL C i).length : Nat) (i : Int) C torn at_ = some (fatePut C torn at_)
  | 0, i, hi => by
    have hat := mayB_at hmay
    have hcl := cameL_length C i
    have hah : aheadOf torn (cameL C C.length) = if 0 ≤ torn then ((cameL C i).length : Int) else -1 := by
      by_cases ht : torn = -1
      · subst ht; rw [if_neg (by decide)]; exact aheadOf_minus C
      · have hm := hmay
        unfold mayB at hm
        rw [if_neg ht, decide_eq_true_eq] at hm
        obtain ⟨t0, t1, tc, _, _⟩ := hm
        obtain rfl : torn = (i : Int) := by omega
        rw [Int.toNat_natCast] at tc
        rw [if_pos t0]; exact aheadOf_count C (by omega) tc
    have hneg : ¬ 0 ≤ torn → (cameL C i).length = 0 := fun h => by
      obtain rfl : i = 0 := by omega
      rfl
    generalize hcn : (cameL C i).length = cn at *
    by_cases h127 : (cn : Int) > 127
    · refine ⟨2, ?_⟩
      rw [PFatePuts.foyerref04_Put.l0]
      rw [if_neg (by omega), if_pos h127, PFatePuts.foyerref04_Put.j1]
      rw [if_pos rfl]
      unfold fatePut
      rw [if_neg (by rw [hmay]; simp)]
      by_cases h0 : 0 ≤ torn
      · rw [if_pos h0] at hah
        rw [hah, if_pos (show (127 : Int) < cn from h127)]
        split <;> rfl
      · have := hneg h0; omega
    · by_cases hl : C.length ≤ 4096
      · obtain ⟨k, hk⟩ := putRef_j1 C torn at_ cn hl (by omega) hat
        refine ⟨k + 1, ?_⟩
        rw [PFatePuts.foyerref04_Put.l0]
        rw [if_neg (by omega), if_neg h127, show decide ((C.length : Int) > 4096) = false by rw [decide_eq_false_iff_not]; omega, hk]
        congr 1
        symm
        unfold fatePut putBits
        rw [if_neg (by rw [hmay]; simp), if_neg (by omega), hah]
        by_cases h0 : 0 ≤ torn
        · simp only [if_pos h0]
          rw [if_neg h127, if_pos (by omega)]
        · simp only [if_neg h0]
          rw [if_neg (by decide), if_neg (by decide)]
      · refine ⟨2, ?_⟩
        rw [PFatePuts.foyerref04_Put.l0]
        rw [if_neg (by omega), if_neg h127, show decide ((C.length : Int) > 4096) = true by rw [decide_eq_true_eq]; omega, PFatePuts.foyerref04_Put.j1]
        rw [if_pos rfl]
        unfold fatePut
        rw [if_neg (by rw [hmay]; simp), if_pos (by omega)]
  | d + 1, i, hi => by
    obtain ⟨k, hk⟩ := putRef_l0 C torn at_ hmx hmay d (i + 1) (by omega)
    have ht : torn ≠ -1 := by omega
    have hm := hmay
    unfold mayB at hm
    rw [if_neg ht, decide_eq_true_eq] at hm
    obtain ⟨t0, t1, tc, _, _⟩ := hm
    have hic : i < C.length := by omega
    have hcl := cameL_length C i
    refine ⟨k + 1, ?_⟩
    rw [PFatePuts.foyerref04_Put.l0]
    rw [if_pos (by omega), if_pos (by omega), if_pos (by omega), show rdOf false C (i : Int) = C.getD i false by simp [rdOf], w64_succ i (by omega), w64_succ (cameL C i).length (by omega)]
    cases hb : C.getD i false with
    | true =>
      obtain ⟨hl, e⟩ := cameL_yes C hic hb
      rw [if_pos rfl]
      rw [e, List.length_append, List.length_singleton] at hk
      exact hk
    | false =>
      rw [if_neg (by simp)]
      rw [cameL_no C hb] at hk
      exact hk

/-- **The document's Put.** -/
theorem putRef_calls (A : Option Addr) (c0 : Nat) (C : List Bool) (torn at_ : Int) (w : World) (hr : Kd.C Kd.bool w A C.length C) (hc0 : C.length ≤ c0) (hmx : C.length ≤ 1000000) :
    Calls Try.prog 14 #[.agg #[.slice A C.length c0, .int .i64 torn, .int .i64 at_]] w (PutPost w (fatePut C torn at_)) := by
  have : ∃ k, PFatePuts.foyerref04_Put.f k C torn at_ = some (fatePut C torn at_) := by
    unfold PFatePuts.foyerref04_Put.f
    rw [mayRef]
    simp only [Option.bind_some]
    cases hmay : mayB C torn at_ with
    | true =>
      obtain ⟨k, hk⟩ := putRef_l0 C torn at_ hmx hmay (max torn 0).toNat 0 (by omega)
      exact ⟨k, by rw [if_pos rfl]; exact hk⟩
    | false => exact ⟨0, by rw [if_neg (by simp)]; unfold fatePut; rw [if_pos hmay]⟩
  obtain ⟨k, hk⟩ := this
  exact PFatePuts.foyerref04_Put.calls k A c0 C torn at_ _ _ w hr hc0 hk
end Go.Proofs.Ytknibnbepmdapaa
