/-
DiskLasts: the plain law: behind a Boot each sector is one of what it may be, but for one, of which the first bytes are of one of these and the rest of another.
-/
import Derived.Test.YtknibnbepmdapaaDh
namespace Go.Proofs.Ytknibnbepmdapaa
open Go.RowKit Go.Shelf Go.Proofs.YtknibnbepmdapaaW.PrintWords Go.Proofs.Ytknibnbepmdapaa.PFate

/-- What a sector may be: what it is, and what is pending for it. -/
def mayOf (held : List ByteArray) (pend : List S43) (k : Nat) : List ByteArray := held.getD k ByteArray.empty :: (pend.filter fun x => decide (x.f0 = (k : Int))).map (·.f1)

theorem mayOf_snoc (held : List ByteArray) (pend : List S43) (x : S43) (k : Nat) : mayOf held (pend ++ [x]) k = if x.f0 = (k : Int) then mayOf held pend k ++ [x.f1] else mayOf held pend k := by
  unfold mayOf
  by_cases h : x.f0 = (k : Int)
  · rw [if_pos h]; simp [List.filter_append, h]
  · rw [if_neg h]; simp [List.filter_append, h]

theorem mayOf_last (held : List ByteArray) (pend : List S43) (hP : PendOk held.length pend) (k : Nat) (hk : k < held.length) : (mayOf held pend k).getLast? = some ((comeAll held pend).getD k ByteArray.empty) := by
  rw [comeAll_get held pend hP k hk]
  clear hP
  induction pend using list_snoc_induction with
  | nil => rfl
  | snoc pend x ih =>
    rw [mayOf_snoc, lastOf_snoc]
    by_cases h : x.f0 = (k : Int)
    · rw [if_pos h, if_pos h, List.getLast?_concat]; rfl
    · rw [if_neg h, if_neg h]; exact ih

def Mixed (s : ByteArray) (l : List ByteArray) : Prop := ∃ p ∈ l, ∃ q ∈ l, ∃ b, b ≤ 256 ∧ s = p.extract 0 b ++ q.extract b 256

theorem mayOf_mono (held : List ByteArray) (W : List S43) (k i : Nat) {s : ByteArray} (h : s ∈ mayOf held (W.take i) k) : s ∈ mayOf held W k := by
  unfold mayOf at h ⊢
  rcases List.mem_cons.1 h with h | h
  · exact List.mem_cons.2 (.inl h)
  · obtain ⟨x, hx, rfl⟩ := List.mem_map.1 h
    obtain ⟨hx1, hx2⟩ := List.mem_filter.1 hx
    exact List.mem_cons_of_mem _ (List.mem_map.2 ⟨x, List.mem_filter.2 ⟨List.mem_of_mem_take hx1, hx2⟩, rfl⟩)

section
variable (S : List ByteArray) (W : List S43) (C : List Bool) (t a : Int)

theorem take_succ43 {i : Nat} (h : i < W.length) : W.take (i + 1) = W.take i ++ [rd_T43 W (i : Int)] := by
  rw [List.take_add_one, List.getElem?_eq_getElem h]
  unfold rd_T43
  rw [Int.toNat_natCast, List.getD_eq_getElem?_getD, List.getElem?_eq_getElem h]
  rfl

theorem mem_next {k i : Nat} (hi : i < W.length) {s : ByteArray} (h : s ∈ mayOf S (W.take i) k) : s ∈ mayOf S (W.take (i + 1)) k := by
  rw [take_succ43 W hi, mayOf_snoc]
  split
  · exact List.mem_append_left _ h
  · exact h

theorem stands_may (hS : All256 S) (hC : C.length = W.length) (hW : ∀ x ∈ W, x.f1.size = 256) (ha : 0 ≤ a ∧ a ≤ 256) (k : Nat) (hk : k < S.length) : ∀ i, i ≤ W.length →
    stands S W C t a k i ∈ mayOf S (W.take i) k ∨ (0 ≤ t ∧ t < i ∧ (rd_T43 W t).f0 = (k : Int) ∧ Mixed (stands S W C t a k i) (mayOf S (W.take i) k))
  | 0, _ => .inl (List.mem_cons.2 (.inl rfl))
  | i + 1, hi => by
    have ih := stands_may hS hC hW ha k hk i (by omega)
    have hstay : stands S W C t a k (i + 1) = stands S W C t a k i → (stands S W C t a k (i + 1) ∈ mayOf S (W.take (i + 1)) k ∨ (0 ≤ t ∧ t < ((i + 1 : Nat) : Int) ∧ (rd_T43 W t).f0 = (k : Int) ∧ Mixed (stands S W C t a k (i + 1)) (mayOf S (W.take (i + 1)) k))) := by
      intro e
      rw [e]
      rcases ih with ih | ⟨h1, h2, h3, p, hp, q, hq, b, hb, hs⟩
      · exact .inl (mem_next S W (by omega) ih)
      · exact .inr ⟨h1, by omega, h3, p, mem_next S W (by omega) hp, q, mem_next S W (by omega) hq, b, hb, hs⟩
    cases hc : C.getD i false with
    | false => exact hstay (stands_no S W C t a k i hc)
    | true =>
      have hy := stands_yes S W C t a hC k i hk (by omega) hc
      by_cases h : (rd_T43 W i).f0 = (k : Int) ∧ (rd_T43 W i).f1.size = 256
      · rw [if_pos h] at hy
        have hmem : (rd_T43 W (i : Int)).f1 ∈ mayOf S (W.take (i + 1)) k := by
          rw [take_succ43 W (by omega), mayOf_snoc, if_pos h.1]
          exact List.mem_append_right _ List.mem_cons_self
        have hsz := stands_size S W C t a hS k i hk
        by_cases ht : (i : Int) = t
        · rw [layAt_torn t a i _ _ ht ha h.2] at hy
          rcases ih with ih | ⟨h1, h2, _⟩
          · refine .inr ⟨by omega, by omega, by rw [← ht]; exact h.1, ?_⟩
            rw [hy, hsz]
            exact ⟨_, hmem, _, mem_next S W (by omega) ih, a.toNat, by omega, rfl⟩
          · omega
        · rw [layAt_whole t a i _ _ ht h.2 hsz] at hy
          rw [hy]
          exact .inl hmem
      · rw [if_neg h] at hy
        exact hstay hy
end

/-- The one sector that may be torn. -/
def tornSector (W : List S43) (t : Int) : Int := (rd_T43 W t).f0

/-- **The law.** -/
theorem boot_may (s : DS) (cs : List Int) (hcs : Bytes cs) (hS : All256 s.held) (hW : ∀ x ∈ s.pend, x.f1.size = 256) (hl : s.pend.length ≤ 4096) (k : Nat) (hk : k < s.held.length) :
    (s.boot cs).held.getD k ByteArray.empty ∈ mayOf s.held s.pend k ∨ (tornSector s.pend (fateRead cs s.pend.length).2.1 = (k : Int) ∧ Mixed ((s.boot cs).held.getD k ByteArray.empty) (mayOf s.held s.pend k)) := by
  have hr : fateRead cs (s.pend.length : Int) = fateReadN cs s.pend.length := by
    unfold fateRead
    rw [show (min (max (s.pend.length : Int) 0) 4096).toNat = s.pend.length by omega]
  have hC := fateReadN_length cs s.pend.length
  obtain ⟨hmay, _⟩ := read_may cs hcs s.pend.length
  have hb : (s.boot cs).held = fateAfter s.held s.pend (fateReadN cs s.pend.length).1 (fateReadN cs s.pend.length).2.1 (fateReadN cs s.pend.length).2.2 := by
    show fateAfter _ _ _ _ _ = _
    rw [hr]
  rw [hb, hr]
  generalize fateReadN cs s.pend.length = FF at *
  obtain ⟨C, t, a⟩ := FF
  dsimp only at hC hmay ⊢
  have hst : (fateAfter s.held s.pend C t a).getD k ByteArray.empty = stands s.held s.pend C t a k s.pend.length := by
    unfold stands fateAfter
    exact congrArg (fun m => (afterFold s.pend t a s.held (cameL C m)).getD k ByteArray.empty) hC
  rw [hst]
  have := stands_may s.held s.pend C t a hS hC hW (mayB_at hmay) k hk s.pend.length (Nat.le_refl _)
  rw [List.take_of_length_le (Nat.le_refl _)] at this
  rcases this with h | ⟨_, _, h3, h4⟩
  · exact .inl h
  · exact .inr ⟨h3, h4⟩
end Go.Proofs.Ytknibnbepmdapaa
