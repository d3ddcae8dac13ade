/-
DiskLasts: the array of what each sector may be, beside a disk.
-/
import Derived.Test.YtknibnbepmdapaaQa
import Derived.Test.YtknibnbepmdapaaEe
import Derived.ArgAppend
namespace Go.Proofs.Ytknibnbepmdapaa
open Go.RowKit Go.Shelf Go.Proofs.YtknibnbepmdapaaW.PrintWords Go.Proofs.Ytknibnbepmdapaa.PFate Go.ChangeMaps Go.Maps

/-- A row of strings at a place of its own block. -/
def RowAt (w : World) (g : Nat) (v : Value) (xs : List ByteArray) : Prop :=
  ∃ off cap cells, v = .slice (some ⟨g, off, none⟩) xs.length cap ∧ Blk w g 9 cells ∧ xs.length ≤ cap ∧ cap ≤ maxLen ∧ off + cap ≤ cells.size ∧ ∀ j s, xs[j]? = some s → cells[off + j]? = some (.string s)

theorem RowAt.stay {w w' : World} {g : Nat} {v : Value} {xs : List ByteArray} (h : RowAt w g v xs) (hb : w'.heap[g]? = w.heap[g]?) : RowAt w' g v xs := by
  obtain ⟨off, cap, cells, hv, hB, h1, h2, h3, h4⟩ := h
  exact ⟨off, cap, cells, hv, hb.trans hB, h1, h2, h3, h4⟩

theorem RowAt.reads {w : World} {g : Nat} {v : Value} {xs : List ByteArray} (h : RowAt w g v xs) : ∃ A c, v = .slice A xs.length c ∧ xs.length ≤ c ∧ Kd.C Kd.string w A xs.length xs := by
  obtain ⟨off, cap, cells, hv, hB, h1, h2, h3, h4⟩ := h
  refine ⟨_, cap, hv, h1, rfl, by unfold maxLen at h2; omega, fun _ => ⟨_, rfl, fun j s hj => ⟨[.string s], rfl, rfl, fun i u hu => ?_⟩⟩⟩
  match i, hu with
  | 0, hu =>
    have e : (⟨g, off, none⟩ : Addr).add (j * 1 + 0) = ⟨g, off + j, none⟩ := by rw [Nat.mul_one, Nat.add_zero, Addr.add_lit]
    show w.cell? ((⟨g, off, none⟩ : Addr).add (j * 1 + 0)) = _
    rw [e, hB.cell, h4 j s hj, ← hu]
    rfl
  | i + 1, hu => simp at hu

structure MayC (n : Nat) (w : World) (g8 : Nat) (M : Nat → Prop) (X : Nat → List ByteArray) (va : Array Value) (gs : Nat → Nat) : Prop where
  sz : va.size = 8
  arr : Blk w g8 54 va
  row : ∀ k, k < n → ∃ v, va[k]? = some v ∧ RowAt w (gs k) v (X k)
  ne : ∀ i k, i < n → k < n → gs i = gs k → i = k
  m8 : M g8
  mg : ∀ k, k < n → M (gs k)
  lt : ∀ k, M k → k < w.heap.size

/-- The array, whose blocks are among M. -/
def MayAt (n : Nat) (w : World) (g8 : Nat) (M : Nat → Prop) (X : Nat → List ByteArray) : Prop := ∃ va gs, MayC n w g8 M X va gs

section
variable {n n' k g' : Nat} {w w' w2 : World} {g8 : Nat} {M : Nat → Prop} {X : Nat → List ByteArray} {va : Array Value} {gs : Nat → Nat} {v1 : Value} {ys : List ByteArray}

theorem MayAt.stay (h : MayAt n w g8 M X) (hs : w.heap.size ≤ w'.heap.size) (hb : ∀ k, M k → w'.heap[k]? = w.heap[k]?) : MayAt n w' g8 M X := by
  obtain ⟨va, gs, h1, h2, h3, h4, h5, h6, h7⟩ := h
  refine ⟨va, gs, h1, (hb g8 h5).trans h2, fun k hk => ?_, h4, h5, h6, fun k hk => by have := h7 k hk; omega⟩
  obtain ⟨v, hv, hr⟩ := h3 k hk
  exact ⟨v, hv, hr.stay (hb _ (h6 k hk))⟩
theorem MayAt.lt (h : MayAt n w g8 M X) : ∀ k, M k → k < w.heap.size := by
  obtain ⟨_, _, h⟩ := h
  exact h.lt
theorem MayAt.below (h : MayAt n w g8 M X) (hb : Below w.heap.size w w') : MayAt n w' g8 M X := h.stay hb.size fun k hk => hb.block k (h.lt k hk)

theorem MayC.row_ne (h : MayC n w g8 M X va gs) (hk : k < n) : gs k ≠ g8 := by
  obtain ⟨v, _, off, cap, cells, _, hB, _⟩ := h.row k hk
  exact hB.ne h.arr (by decide)
theorem MayC.row_lt (h : MayC n w g8 M X va gs) (hk : k < n) : gs k < w.heap.size := h.lt _ (h.mg k hk)

theorem MayC.put (h : MayC n w g8 M X va gs) (hk : k < 8) (hn : (k < n ∧ n' = n) ∨ (k = n ∧ n' = n + 1)) (hg : (k < n ∧ g' = gs k) ∨ w.heap.size ≤ g') (harr : Blk w2 g8 54 (va.setIfInBounds k v1)) (hrow : RowAt w2 g' v1 ys)
    (hsz : w.heap.size ≤ w2.heap.size) (hold : ∀ b, b < w.heap.size → b ≠ g8 → b ≠ g' → w2.heap[b]? = w.heap[b]?) : MayAt n' w2 g8 (fun b => M b ∨ b = g') (fun j => if j = k then ys else X j) := by
  have hlt2 : g' < w2.heap.size := by obtain ⟨_, _, _, _, hB, _⟩ := hrow; exact hB.lt
  have hfar : ∀ j, j < n → j ≠ k → gs j ≠ g' := by
    intro j hj hjk e
    rcases hg with ⟨h1, h2⟩ | h1
    · exact hjk (h.ne j k hj h1 (by omega))
    · have := h.row_lt hj; omega
  refine ⟨va.setIfInBounds k v1, fun j => if j = k then g' else gs j, by rw [Array.size_setIfInBounds]; exact h.sz, harr, fun j hj => ?_, fun i j hi hj e => ?_, .inl h.m8, fun j hj => ?_, fun b hb => ?_⟩
  · by_cases e : j = k
    · subst e
      refine ⟨v1, ?_, by rw [if_pos rfl, if_pos rfl]; exact hrow⟩
      rw [Array.getElem?_setIfInBounds_self_of_lt (by rw [h.sz]; exact hk)]
    · obtain ⟨v, hv, hr⟩ := h.row j (by omega)
      refine ⟨v, by rw [Array.getElem?_setIfInBounds_ne (by omega)]; exact hv, ?_⟩
      rw [if_neg e, if_neg e]
      exact hr.stay (hold _ (h.row_lt (by omega)) (h.row_ne (by omega)) (hfar j (by omega) e))
  · by_cases ei : i = k
    · by_cases ej : j = k
      · omega
      · rw [if_pos ei, if_neg ej] at e
        exact absurd e.symm (hfar j (by omega) ej)
    · by_cases ej : j = k
      · rw [if_neg ei, if_pos ej] at e
        exact absurd e (hfar i (by omega) ei)
      · rw [if_neg ei, if_neg ej] at e
        exact h.ne i j (by omega) (by omega) e
  · by_cases ej : j = k
    · rw [if_pos ej]; exact .inr rfl
    · rw [if_neg ej]; exact .inl (h.mg j (by omega))
  · rcases hb with hb | rfl
    · have := h.lt b hb; omega
    · exact hlt2
end

/-- A disk and the array, which do not share memory. -/
def Both (n : Nat) (w0 w : World) (d g8 : Nat) (s : DS) (X : Nat → List ByteArray) : Prop :=
  ∃ F M, DiskAt w d F s ∧ MayAt n w g8 M X ∧ (∀ k, F k → ¬ M k) ∧ (∀ k, F k → w0.heap.size ≤ k) ∧ (∀ k, M k → w0.heap.size ≤ k) ∧ Below w0.heap.size w0 w

section
variable {n n' k g' m N : Nat} {w0 w w' w2 : World} {d g8 : Nat} {s s' : DS} {X Y : Nat → List ByteArray}
theorem Both.below (h : Both n w0 w d g8 s X) (hb : Below w.heap.size w w') : Both n w0 w' d g8 s X := by
  obtain ⟨F, M, hD, hM, hne, h1, h2, h0⟩ := h
  exact ⟨F, M, hD.below hb, hM.below hb, hne, h1, h2, below_then h0 h0.size hb⟩
theorem Both.base (h : Both n w0 w d g8 s X) : Below w0.heap.size w0 w := by
  obtain ⟨_, _, _, _, _, _, _, h0⟩ := h
  exact h0
theorem Both.drew (h : Both n w0 w d g8 s X) : Both n w0 w.drew d g8 s X := h.below (Below.refl _ _).drew
theorem Both.congr (h : Both n w0 w d g8 s X) (hX : ∀ k, k < n → X k = Y k) : Both n w0 w d g8 s Y := by
  obtain ⟨F, M, hD, ⟨va, gs, h1, h2, h3, h4, h5, h6, h7⟩, hne, r⟩ := h
  exact ⟨F, M, hD, ⟨va, gs, h1, h2, fun k hk => by rw [← hX k hk]; exact h3 k hk, h4, h5, h6, h7⟩, hne, r⟩
theorem Both.stepD {F M : Nat → Prop} (hM : MayAt n w g8 M X) (hne : ∀ k, F k → ¬ M k) (h1 : ∀ k, F k → w0.heap.size ≤ k) (h2 : ∀ k, M k → w0.heap.size ≤ k) (h0 : Below w0.heap.size w0 w) (hp : DiskPost w d F s' w') : Both n w0 w' d g8 s' X := by
  obtain ⟨F', hD', hF', hk⟩ := hp
  refine ⟨F', M, hD', hM.stay hk.size (fun k hf => hk.block k (hM.lt k hf) (fun hd => hne k hd hf)), fun k hf hr => ?_, fun k hf => ?_, h2, h0.trans (hk.below h0.size h1)⟩
  · rcases hF' k hf with h | h
    · exact hne k h hr
    · have := hM.lt k hr; omega
  · rcases hF' k hf with h | h
    · exact h1 k h
    · have := h0.size; omega
/-- One row is laid anew. -/
theorem Both.parts (h : Both n w0 w d g8 s X) : ∃ (va : Array Value) (gs : Nat → Nat), va.size = 8 ∧ Blk w g8 54 va ∧ (∀ k, k < n → ∃ v, va[k]? = some v ∧ RowAt w (gs k) v (X k)) ∧ (∀ k, k < n → gs k ≠ g8 ∧ gs k < w.heap.size) ∧
    ∀ {n' k g' : Nat} {v1 : Value} {ys : List ByteArray} {w2 : World}, k < 8 → ((k < n ∧ n' = n) ∨ (k = n ∧ n' = n + 1)) → ((k < n ∧ g' = gs k) ∨ w.heap.size ≤ g') → Blk w2 g8 54 (va.setIfInBounds k v1) → RowAt w2 g' v1 ys →
      Keeps w w2 (fun b => b = g8 ∨ b = g') → Both n' w0 w2 d g8 s (fun j => if j = k then ys else X j) := by
  obtain ⟨F, M, hD, ⟨va, gs, hC⟩, hne, h1, h2, h0⟩ := h
  refine ⟨va, gs, hC.sz, hC.arr, hC.row, fun k hk => ⟨hC.row_ne hk, hC.row_lt hk⟩, ?_⟩
  intro n' k g' v1 ys w2 hk hn hg harr hrow hK
  have hg2 : M g' ∨ w.heap.size ≤ g' := by
    rcases hg with ⟨a, rfl⟩ | a
    · exact .inl (hC.mg k a)
    · exact .inr a
  have hfar : ∀ b, F b → ¬ (b = g8 ∨ b = g') := by
    rintro b hb (rfl | rfl)
    · exact hne _ hb hC.m8
    · rcases hg2 with a | a
      · exact hne _ hb a
      · have := hD.lt _ hb; omega
  have hge : ∀ b, M b ∨ b = g' → w0.heap.size ≤ b := by
    rintro b (hb | rfl)
    · exact h2 b hb
    · rcases hg2 with a | a
      · exact h2 _ a
      · have := h0.size; omega
  refine ⟨F, fun b => M b ∨ b = g', hD.stay hK.size (fun b hb => hK.block b (hD.lt b hb) (hfar b hb)), hC.put hk hn hg harr hrow hK.size (fun b hb e1 e2 => hK.block b hb (by rintro (e | e); exact e1 e; exact e2 e)), fun b hb => ?_, h1, hge, h0.trans (hK.below h0.size ?_)⟩
  · rintro (hm | rfl)
    · exact hne b hb hm
    · exact hfar _ hb (.inr rfl)
  · rintro b (rfl | rfl)
    · exact h2 _ hC.m8
    · exact hge _ (.inr rfl)

theorem both_read_row (h : Both n w0 w d g8 s X) (hk : k < n) : ∃ A c, w.cell? ⟨g8, k, none⟩ = some (.slice A (X k).length c) ∧ (X k).length ≤ c ∧ Kd.C Kd.string w A (X k).length (X k) := by
  obtain ⟨va, gs, hs, hB, hr, _⟩ := h.parts
  obtain ⟨v, hv, hrow⟩ := hr k hk
  obtain ⟨A, c, rfl, h1, h2⟩ := hrow.reads
  exact ⟨A, c, (hB.cell k).trans hv, h1, h2⟩

/-- The row of sector k begins: one string. -/
theorem both_init (h : Both n w0 w d g8 s X) (hn : n < 8) (z : ByteArray) (o : Obj) (cp : Nat) (hc : cp = 1) : Both (n + 1) w0 ((((w.alloc o).alloc (.cells #[.string z] 9))).setCell ⟨g8, n, none⟩ (.slice (some ⟨w.heap.size + 1, 0, none⟩) 1 cp)) d g8 s (fun j => if j = n then [z] else X j) := by
  subst hc
  obtain ⟨va, gs, hs, hB, hr, hne, hput⟩ := h.parts
  have b1 : Blk ((w.alloc o).alloc (.cells #[.string z] 9)) (w.heap.size + 1) 9 #[.string z] := by
    have := Blk.new (w.alloc o) 9 #[.string z]
    simpa using this
  have bA := (hB.alloc o).alloc (.cells #[.string z] 9)
  have hlt := hB.lt
  refine hput hn (.inr ⟨rfl, rfl⟩) (.inr (Nat.le_succ _)) (bA.set n _) ⟨0, 1, #[.string z], rfl, b1.stay (by omega) _, by simp, by decide, by simp, fun j t hj => ?_⟩ ?_
  · match j, hj with
    | 0, hj => simp at hj; subst hj; rfl
    | j + 1, hj => simp at hj
  · exact (Keeps.of_below (below_alloc (below_alloc (Below.refl _ _) _) _) _).set (.inl rfl) _ _

/-- The row of sector k is cut: its last string stays. -/
theorem both_cut (h : Both n w0 w d g8 s X) (hk8 : k < 8) (hk : k < n) {ys : List ByteArray} {x : ByteArray} (hX : X k = ys ++ [x]) : ∃ g off cap, w.cell? ⟨g8, k, none⟩ = some (.slice (some ⟨g, off, none⟩) (ys.length + 1) cap) ∧ ys.length + 1 ≤ cap ∧ cap ≤ maxLen ∧
    Both n w0 (w.setCell ⟨g8, k, none⟩ (.slice (some ⟨g, off + ys.length, none⟩) 1 (cap - ys.length))) d g8 s (fun j => if j = k then [x] else X j) := by
  obtain ⟨va, gs, hs, hB, hr, hne, hput⟩ := h.parts
  obtain ⟨v, hv, off, cap, cells, rfl, hBr, h1, h2, h3, h4⟩ := hr k hk
  have hl : (X k).length = ys.length + 1 := by rw [hX]; simp
  rw [hl] at hv h1
  refine ⟨gs k, off, cap, (hB.cell k).trans hv, h1, h2, ?_⟩
  refine hput hk8 (.inl ⟨hk, rfl⟩) (.inl ⟨hk, rfl⟩) (hB.set k _) ⟨off + ys.length, cap - ys.length, cells, rfl, hBr.stay (hne k hk).1 _, by simp; omega, by omega, by omega, fun j t hj => ?_⟩ ((Keeps.refl _ _).set (.inl rfl) _ _)
  match j, hj with
  | 0, hj =>
    simp at hj
    subst hj
    rw [Nat.add_zero]
    exact h4 ys.length x (by rw [hX]; simp)
  | j + 1, hj => simp at hj

/-- A string is appended to the row of sector k. -/
theorem both_append (h : Both n w0 w d g8 s X) (hk8 : k < 8) (hk : k < n) (str : ByteArray) (hX : (X k).length ≤ 1000) (ty : TypeId) : ∃ g0 off l0 c0, w.cell? ⟨g8, k, none⟩ = some (.slice (some ⟨g0, off, none⟩) l0 c0) ∧
    ∃ a l c w1, (Builtin.append_ #[33, 33] ty #[.slice (some ⟨g0, off, none⟩) l0 c0, .slice (some ⟨w.heap.size, 0, none⟩) 1 1]).run Try.prog (w.alloc (.cells #[.string str] 9)) = .ok (.slice a l c) w1 ∧ (∃ u, w1.cell? ⟨g8, k, none⟩ = some u) ∧ w1.frozen? ⟨g8, k, none⟩ = false ∧
      Both n w0 (w1.setCell ⟨g8, k, none⟩ (.slice a l c)) d g8 s (fun j => if j = k then X k ++ [str] else X j) := by
  obtain ⟨va, gs, hs, hB, hr, hne, hput⟩ := h.parts
  obtain ⟨v, hv, off, cap, cells, rfl, hBr, h1, h2, h3, h4⟩ := hr k hk
  refine ⟨_, _, _, _, (hB.cell k).trans hv, ?_⟩
  obtain ⟨i0, hi, hz0, hz1, hz2⟩ := info_parts info9
  have bN : Blk (w.alloc (.cells #[.string str] 9)) w.heap.size 9 #[.string str] := Blk.new w 9 _
  have bA := hB.alloc (.cells #[.string str] 9)
  have bR := hBr.alloc (.cells #[.string str] 9)
  have hcz : cells.size ≤ cells.size := Nat.le_refl _
  have hnews : ∀ j u, [Value.string str][j]? = some u → (w.alloc (.cells #[.string str] 9)).cell? ((⟨w.heap.size, 0, none⟩ : Addr).add j) = some u := fun j u hu => by
    rw [Addr.add_lit, Nat.zero_add, bN.cell]
    match j, hu with
    | 0, hu => exact hu
    | j + 1, hu => simp at hu
  obtain ⟨hn8, hlt⟩ := hne k hk
  by_cases hroom : (X k).length + 1 ≤ cap
  · have hcell : ∀ j, j < [Value.string str].length → ((w.alloc (.cells #[.string str] 9)).cell? ⟨gs k, off + (X k).length * i0.size + j, none⟩).isSome = true := fun j hj => by
      have hj0 : j = 0 := by simpa using hj
      rw [bR.cell, hz1, hj0, Array.getElem?_eq_getElem (by omega)]
      rfl
    have hfr : ∀ j, j < [Value.string str].length → (w.alloc (.cells #[.string str] 9)).frozen? ⟨gs k, off + (X k).length * i0.size + j, none⟩ = false := fun j _ => bR.frozen _
    have hrun := run_append_room_cells (P := Try.prog) (w.alloc (.cells #[.string str] 9)) 33 ty 9 i0 Try.underlying33 hi (gs k) off (X k).length cap ⟨w.heap.size, 0, none⟩ 1 1 [.string str] (by rw [hz1]; rfl) hnews (by simp [Value.oneCell']) hroom hcell hfr
    have hw1 : (w.alloc (.cells #[.string str] 9)).setCells (gs k) (off + (X k).length * i0.size) [.string str] = (w.alloc (.cells #[.string str] 9)).setCell ⟨gs k, off + (X k).length, none⟩ (.string str) := by
      rw [hz1, Nat.mul_one]
      rfl
    rw [hw1] at hrun
    clear hw1 hcell hfr
    have bA1 := bA.stay (o := off + (X k).length) (fun e => hn8 e.symm) (.string str)
    have bR1 := bR.set (off + (X k).length) (.string str)
    refine ⟨_, _, _, _, hrun, ⟨_, (bA1.cell k).trans hv⟩, bA1.frozen k, ?_⟩
    refine hput hk8 (.inl ⟨hk, rfl⟩) (.inl ⟨hk, rfl⟩) (bA1.set k _) ⟨off, cap, _, by simp, bR1.stay hn8 _, by simp; omega, h2, by simp; omega, fun j t hj => ?_⟩
      (((Keeps.of_below (below_alloc (Below.refl _ _) _) _).set (.inr rfl) _ _).set (.inl rfl) _ _)
    rcases Nat.lt_or_ge j (X k).length with hj' | hj'
    · rw [List.getElem?_append_left hj'] at hj
      rw [Array.getElem?_setIfInBounds_ne (by omega)]
      exact h4 j t hj
    · rw [List.getElem?_append_right hj'] at hj
      have hj0 : j = (X k).length := by
        have := (List.getElem?_eq_some_iff.1 hj).1
        simp at this; omega
      subst hj0
      simp at hj
      subst hj
      rw [Array.getElem?_setIfInBounds_self_of_lt (by omega)]
  · obtain ⟨v', w1, hrun, hown, hgr⟩ := run_append_arg_grows (P := Try.prog) (w.alloc (.cells #[.string str] 9)) 33 ty 9 i0 (.string ⟨#[]⟩) 1 16 Try.underlying33 hi hz0 hz1 hz2 rfl (by decide) ⟨gs k, off, none⟩ (X k).length cap ((X k).map Value.string) (by simp)
      (fun j u hu => by
        rw [List.getElem?_map] at hu
        obtain ⟨t, ht, rfl⟩ := Option.map_eq_some_iff.1 hu
        rw [Addr.add_lit, bR.cell]
        exact h4 j t ht)
      ⟨w.heap.size, 0, none⟩ 1 1 [.string str] rfl hnews (by omega) (by unfold maxLen; omega) (by omega)
    obtain ⟨_, ⟨_, h0⟩ | ⟨g', cap', cur, rfl, hg', hBg, hc1, hc2, hc3, hc4⟩⟩ := hown
    · omega
    have hsz1 : (w.alloc (.cells #[.string str] 9)).heap.size = w.heap.size + 1 := by simp
    rw [hsz1] at hg'
    have bA1 := bA.grown hgr (by simp)
    refine ⟨_, _, _, _, hrun, ⟨_, (bA1.cell k).trans hv⟩, bA1.frozen k, ?_⟩
    have hB8 := hB.lt
    have hBg' : Blk w1 g' 9 cur := hBg
    refine hput hk8 (.inl ⟨hk, rfl⟩) (.inr (by omega)) (bA1.set k _) ⟨0, cap', cur, by simp, hBg'.stay (by omega) _, by simp; omega, hc2, by omega, fun j t hj => ?_⟩
      (((Keeps.of_below (below_alloc (Below.refl _ _) _) _).grow hgr (fun k hk => by cases hk)).set (.inl rfl) _ _)
    have hjl : j < (X k).length + 1 := by have := (List.getElem?_eq_some_iff.1 hj).1; simpa using this
    have e1 : (cur.toList.take (((X k).length + 1) * 1))[j]? = cur[j]? := by
      rw [List.getElem?_take, if_pos (by omega), Array.getElem?_toList]
    rw [Nat.zero_add, ← e1, hc4, ← List.map_singleton (f := Value.string), ← List.map_append, List.getElem?_map, hj]
    rfl
end
end Go.Proofs.Ytknibnbepmdapaa
