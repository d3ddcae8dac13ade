/-
The document's After: what it answers.
-/
import Derived.Test.YtknibnbepmdapaaPFatex9
import Derived.Test.YtknibnbepmdapaaKl
namespace Go.Proofs.Ytknibnbepmdapaa
open Go.RowKit Go.Shelf Go.Proofs.YtknibnbepmdapaaW.PrintWords Go.Proofs.YtknibnbepmdapaaW.PrintMore Go.Proofs.Ytknibnbepmdapaa.PFate

theorem extract_step (X : ByteArray) (b : Nat) : X.extract 0 b ++ X.extract b (b + 1) = X.extract 0 (b + 1) := by
  apply bytesOf_inj
  rw [bytesOf_append, bytesOf_extract, bytesOf_extract, bytesOf_extract, List.drop_zero, List.drop_zero]
  conv => rhs; rw [← List.take_append_drop b ((bytesOf X).take (b + 1))]
  rw [List.take_take, show min b (b + 1) = b by omega]

theorem one_byte (l : List Int) (b : Nat) (h : b < l.length) : (l.take (b + 1)).drop b = [l.getD b 0] := by
  rw [take_step l 0 h, List.drop_append_of_le_length (by rw [List.length_take]; omega), List.drop_of_length_le (by rw [List.length_take]; omega), List.nil_append]

/-- A byte of what is laid. -/
theorem layAt_byte (t a i : Int) (data old : ByteArray) (hd : data.size = 256) (ho : old.size = 256) (b : Nat) (hb : b < 256) :
    (layAt t a i data old).extract b (b + 1) = if i = t ∧ (b : Int) ≥ a then old.extract b (b + 1) else data.extract b (b + 1) := by
  have hR := layAt_size t a i data old hd ho
  apply bytesOf_inj
  have hld : (bytesOf data).length = 256 := by rw [bytesOf_length, hd]
  have hlo : (bytesOf old).length = 256 := by rw [bytesOf_length, ho]
  by_cases ht : i = t
  · unfold layAt at hR ⊢
    rw [if_pos ht] at hR ⊢
    obtain ⟨m, hm⟩ : ∃ m, (min (max a 0) 256).toNat = m := ⟨_, rfl⟩
    rw [hm] at hR ⊢
    have hm6 : m ≤ 256 := by omega
    have hds : (data.extract 0 m).size = m := by rw [extract_size, hd]; omega
    rw [bytesOf_extract, one_byte _ _ (by rw [bytesOf_length, hR]; exact hb), bytesOf_overlay, hds, bytesOf_extract, List.drop_zero]
    by_cases hba : (b : Int) ≥ a
    · rw [if_pos ⟨ht, hba⟩, bytesOf_extract, one_byte _ _ (by omega)]
      congr 1
      rw [List.getD_eq_getElem?_getD, List.getElem?_append_right (by rw [List.length_take]; omega), List.length_take, List.getElem?_drop, List.getD_eq_getElem?_getD]
      congr 2
      omega
    · rw [if_neg (fun h => hba h.2), bytesOf_extract, one_byte _ _ (by omega)]
      congr 1
      rw [List.getD_eq_getElem?_getD, List.getElem?_append_left (by rw [List.length_take]; omega), List.getElem?_take, if_pos (by omega), List.getD_eq_getElem?_getD]
  · rw [if_neg (fun h => ht h.1), layAt_whole t a i data old ht hd ho]

section
variable (W : List S43) (C : List Bool) (t a : Int) (hW : W.length ≤ 1000000) (hC : C.length ≤ 1000000)

theorem refAfter_l1 (out : List ByteArray) (i k : Nat) (hi : i < W.length) (hk : k < out.length) (hf : (rd_T43 W i).f0 = k) (hd : (rd_T43 W i).f1.size = 256) (ho : (out.getD k ByteArray.empty).size = 256) (hl : out.length ≤ 1000000) (r : Option (List ByteArray))
    (hn : ∃ q, foyerref04_After.l0 q W (out.set k (layAt t a i (rd_T43 W i).f1 (out.getD k ByteArray.empty))) ((i + 1 : Nat) : Int) C t a = r) (hi6 : i ≤ 1000000) :
    ∀ d b, b + d = 256 → ∃ q, foyerref04_After.l1 q W out (i : Int) (k : Int) ((layAt t a i (rd_T43 W i).f1 (out.getD k ByteArray.empty)).extract 0 b) (b : Int) C t a = r
  | 0, b, hb => by
    obtain ⟨q, hq⟩ := hn
    refine ⟨q + 1, ?_⟩
    obtain rfl : b = 256 := by omega
    have hR := layAt_size t a i (rd_T43 W i).f1 (out.getD k ByteArray.empty) hd ho
    have he : (layAt t a i (rd_T43 W i).f1 (out.getD k ByteArray.empty)).extract 0 256 = layAt t a i (rd_T43 W i).f1 (out.getD k ByteArray.empty) := by
      apply bytesOf_inj
      rw [bytesOf_extract, List.drop_zero, List.take_of_length_le (by rw [bytesOf_length, hR]; omega)]
    rw [foyerref04_After.l1]
    rw [if_neg (by omega), if_pos (by omega), if_pos (by omega), he, Int.toNat_natCast, w64_succ _ (by omega)]
    exact hq
  | d + 1, b, hb => by
    obtain ⟨q, hq⟩ := refAfter_l1 out i k hi hk hf hd ho hl r hn hi6 d (b + 1) (by omega)
    have hby := layAt_byte t a i (rd_T43 W i).f1 (out.getD k ByteArray.empty) hd ho b (by omega)
    have hR := layAt_size t a i (rd_T43 W i).f1 (out.getD k ByteArray.empty) hd ho
    rw [← extract_step, hby] at hq
    refine ⟨q + 1, ?_⟩
    have hro : rdOf ByteArray.empty out (k : Int) = out.getD k ByteArray.empty := by unfold rdOf; rw [Int.toNat_natCast]
    have hes : ((layAt t a i (rd_T43 W i).f1 (out.getD k ByteArray.empty)).extract 0 b).size ≤ 256 := by rw [extract_size]; omega
    have x1 : ((rd_T43 W i).f1.extract b (b + 1)).size ≤ 1 := by rw [ByteArray.size_extract]; omega
    have x2 : ((out.getD k ByteArray.empty).extract b (b + 1)).size ≤ 1 := by rw [ByteArray.size_extract]; omega
    rw [foyerref04_After.l1]
    rw [if_pos (by omega), w64_succ _ (by omega), hro]
    simp only [Int.toNat_natCast]
    by_cases ht : (i : Int) = t
    · rw [if_pos ht]
      by_cases hba : (b : Int) ≥ a
      · rw [if_pos ⟨ht, hba⟩] at hq
        rw [if_pos hba, if_pos (by omega), if_pos (by omega), if_pos (by omega), if_pos (by omega), if_pos (by omega), if_pos (by omega)]
        exact hq
      · rw [if_neg (fun h => hba h.2)] at hq
        rw [if_neg hba, if_pos (by omega), if_pos (by omega), if_pos (by omega), if_pos (by omega), if_pos (by omega), if_pos (by omega)]
        exact hq
    · rw [if_neg (fun h => ht h.1)] at hq
      rw [if_neg ht, if_pos (by omega), if_pos (by omega), if_pos (by omega), if_pos (by omega), if_pos (by omega), if_pos (by omega)]
      exact hq
end
end Go.Proofs.Ytknibnbepmdapaa

/-
The document's After: its contract in plain words.
-/
namespace Go.Proofs.Ytknibnbepmdapaa
open Go.RowKit Go.Shelf Go.Proofs.YtknibnbepmdapaaW.PrintWords Go.Proofs.YtknibnbepmdapaaW.PrintMore Go.Proofs.Ytknibnbepmdapaa.PFate

theorem extract_none (X : ByteArray) : X.extract 0 0 = (⟨#[]⟩ : ByteArray) := by
  apply bytesOf_inj
  rw [bytesOf_extract]
  rfl

section
variable (W : List S43) (C : List Bool) (t a : Int) (S : List ByteArray)

theorem refAfter_l0 (hW : W.length ≤ 1000000) (hC : C.length ≤ 1000000) (hS : All256 S) (hS8 : S.length ≤ 1000000) :
    ∀ d i, i + d = min W.length C.length → ∃ q, foyerref04_After.l0 q W (afterFold W t a S (cameL C i)) (i : Int) C t a = some (afterFold W t a S (cameL C (min W.length C.length)))
  | 0, i, hi => by
    obtain rfl : i = min W.length C.length := by omega
    refine ⟨2, ?_⟩
    rw [foyerref04_After.l0]
    by_cases h : W.length ≤ C.length
    · rw [if_neg (by omega), foyerref04_After.j1]
      rw [if_neg (by simp)]
    · rw [if_pos (by omega), show decide (((min W.length C.length : Nat) : Int) < (C.length : Int)) = false by rw [decide_eq_false_iff_not]; omega, foyerref04_After.j1]
      rw [if_neg (by simp)]
  | d + 1, i, hi => by
    obtain ⟨q, hq⟩ := refAfter_l0 hW hC hS hS8 d (i + 1) (by omega)
    generalize afterFold W t a S (cameL C (min W.length C.length)) = R at *
    have hal := afterFold_all W t a (cameL C i) S hS
    have hln := afterFold_length W t a (cameL C i) S
    have hrd : rdOf false C (i : Int) = C.getD i false := by simp [rdOf]
    cases hc : C.getD i false with
    | false =>
      rw [cameL_no C hc] at hq
      refine ⟨q + 3, ?_⟩
      rw [foyerref04_After.l0]
      rw [if_pos (by omega), show decide ((i : Int) < (C.length : Int)) = true by rw [decide_eq_true_eq]; omega, foyerref04_After.j1]
      rw [if_pos rfl, if_pos (by omega), if_pos (by omega), if_pos (by omega), hrd, hc, if_neg (by simp), foyerref04_After.j2]
      rw [if_pos rfl, w64_succ _ (by omega)]
      exact hq
    | true =>
      obtain ⟨hl, e⟩ := cameL_yes C (show i < C.length by omega) hc
      rw [e, afterFold_snoc] at hq
      generalize afterFold W t a S (cameL C i) = out at *
      change ∃ q, _ at *
      have hq : foyerref04_After.l0 q W (afterStep W t a out i) ((i + 1 : Nat) : Int) C t a = some R := hq
      unfold afterStep at hq
      have head : ∀ q' b, foyerref04_After.j2 q' W out (i : Int) ((rd_T43 W i).f0) b C t a = some R →
          b = (decide ((rd_T43 W i).f0 < 0) || decide ((rd_T43 W i).f0 ≥ (out.length : Int)) || (((rd_T43 W i).f1.size : Int) != 256)) → foyerref04_After.l0 (q' + 2) W out (i : Int) C t a = some R := by
        intro q' b h hb
        rw [foyerref04_After.l0]
        rw [if_pos (by omega), show decide ((i : Int) < (C.length : Int)) = true by rw [decide_eq_true_eq]; omega, foyerref04_After.j1]
        rw [if_pos rfl, if_pos (by omega), if_pos (by omega), if_pos (by omega), hrd, hc, if_pos rfl]
        by_cases h0 : (rd_T43 W i).f0 < 0
        · rw [if_pos h0]; rw [hb] at h; simpa [h0] using h
        · rw [if_neg h0]
          by_cases h1 : (rd_T43 W i).f0 ≥ (out.length : Int)
          · rw [if_pos h1]; rw [hb] at h; simpa [h0, h1] using h
          · rw [if_neg h1]; rw [hb] at h; simpa [h0, h1] using h
      by_cases hcond : i < W.length ∧ 0 ≤ (rd_T43 W i).f0 ∧ (rd_T43 W i).f0 < out.length ∧ (rd_T43 W i).f1.size = 256
      · rw [if_pos hcond] at hq
        obtain ⟨h1, h2, h3, h4⟩ := hcond
        obtain ⟨k, hk⟩ := Int.eq_ofNat_of_zero_le h2
        rw [hk, Int.toNat_natCast] at hq
        have ho : (out.getD k ByteArray.empty).size = 256 := by
          rw [List.getD_eq_getElem?_getD, List.getElem?_eq_getElem (by omega), Option.getD_some]; exact hal _ (List.getElem_mem _)
        obtain ⟨q2, hq2⟩ := refAfter_l1 W C t a out i k h1 (by omega) hk h4 ho (by omega) _ ⟨q, hq⟩ (by omega) 256 0 (by omega)
        rw [extract_none] at hq2
        refine ⟨q2 + 1 + 2, head (q2 + 1) false ?_ ?_⟩
        · rw [foyerref04_After.j2]
          rw [if_neg (by simp), hk]
          exact hq2
        · symm; rw [Bool.or_eq_false_iff, Bool.or_eq_false_iff, decide_eq_false_iff_not, decide_eq_false_iff_not]
          exact ⟨⟨by omega, by omega⟩, by rw [h4]; simp⟩
      · rw [if_neg hcond] at hq
        refine ⟨q + 1 + 2, head (q + 1) true ?_ ?_⟩
        · rw [foyerref04_After.j2]
          rw [if_pos rfl, w64_succ _ (by omega)]
          exact hq
        · symm
          rw [Bool.or_eq_true, Bool.or_eq_true, decide_eq_true_eq, decide_eq_true_eq, bne_iff_ne]
          omega
end

/-- **The document's After.** -/
theorem refAfter_calls (A0 : Option Addr) (c0 : Nat) (S : List ByteArray) (A1 : Option Addr) (c1 : Nat) (W : List S43) (A2 : Option Addr) (c2 : Nat) (C : List Bool) (t a : Int) (w : World)
    (hr0 : Kd.C Kd.string w A0 S.length S) (hc0 : S.length ≤ c0) (hr1 : Kd.C k43 w A1 W.length W) (hc1 : W.length ≤ c1) (hr2 : Kd.C Kd.bool w A2 C.length C) (hc2 : C.length ≤ c2)
    (hS : All256 S) (hS8 : S.length ≤ 1000000) (hW : W.length ≤ 1000000) (hC : C.length ≤ 1000000) :
    Calls Try.prog 20 #[.slice A0 S.length c0, .slice A1 W.length c1, .agg #[.slice A2 C.length c2, .int .i64 t, .int .i64 a]] w (AfterPost w (fateAfter S W C t a)) := by
  obtain ⟨q, hq⟩ := refAfter_l0 W C t a S hW hC hS hS8 (min W.length C.length) 0 (by omega)
  have he : afterFold W t a S (cameL C (min W.length C.length)) = fateAfter S W C t a := by
    unfold fateAfter
    by_cases h : W.length ≤ C.length
    · have := afterFold_stop W t a S C (k := W.length) (Nat.le_refl _) (C.length - W.length)
      rw [show W.length + (C.length - W.length) = C.length by omega] at this
      rw [show min W.length C.length = W.length by omega, this]
    · rw [show min W.length C.length = C.length by omega]
  rw [he] at hq
  refine foyerref04_After.calls q A0 c0 S A1 c1 W A2 c2 C t a (fateAfter S W C t a) w hr0 hc0 hr1 hc1 hr2 hc2 ?_
  unfold foyerref04_After.f
  rw [Option.bind_some, if_pos (by rw [List.length_nil]; omega), List.nil_append]
  exact hq
end Go.Proofs.Ytknibnbepmdapaa
