/-
DiskLasts: mixed: is a sector one of some, or the first bytes of one and the rest of another?
-/
import Derived.Test.YtknibnbepmdapaaQb
import Derived.Test.YtknibnbepmdapaaPMixx1
namespace Go.Proofs.Ytknibnbepmdapaa
open Go.RowKit Go.Shelf Go.Proofs.YtknibnbepmdapaaW.PrintWords Go.Proofs.Ytknibnbepmdapaa.PMix

/-- With enough rounds it answers, and as P says. -/
def Comes (g : Nat → Option (Bool × Bool)) (P : Bool × Bool → Prop) : Prop := ∃ k r, g k = some r ∧ P r

theorem Comes.step {g f : Nat → Option (Bool × Bool)} {P : Bool × Bool → Prop} (h : ∀ k, g (k + 1) = f k) (c : Comes f P) : Comes g P := by
  obtain ⟨k, r, h1, h2⟩ := c
  exact ⟨k + 1, r, (h k).trans h1, h2⟩

/-- Is the one text's front the other's, as far as a? -/
def Front (s x : ByteArray) (a : Nat) : Prop := a ≤ 256 ∧ ∀ m, m < a → bt s (m : Int) = bt x (m : Int)
/-- Is the one text's rest the other's, from b on? -/
def Rest (s x : ByteArray) (b : Nat) : Prop := b ≤ 256 ∧ ∀ m, b ≤ m → m < 256 → bt s (m : Int) = bt x (m : Int)

def Pair (s : ByteArray) (l : List ByteArray) (i j : Nat) : Prop := ∃ b, Front s (rdOf ByteArray.empty l (i : Int)) b ∧ Rest s (rdOf ByteArray.empty l (j : Int)) b

theorem bt_val (s : ByteArray) (m : Nat) (h : m < s.size) : bt s (m : Int) = ((s[m]'h).toNat : Int) := by
  unfold bt
  rw [dif_pos (by simpa using h)]
  rfl

theorem rdOf_at (l : List ByteArray) (i : Nat) (h : i < l.length) : rdOf ByteArray.empty l (i : Int) = l[i] := by
  unfold rdOf
  rw [Int.toNat_natCast, List.getD_eq_getElem?_getD, List.getElem?_eq_getElem h]
  rfl

theorem mixed_pair {s : ByteArray} {l : List ByteArray} (hl : ∀ x ∈ l, x.size = 256) (h : Mixed s l) : ∃ i j, i < l.length ∧ j < l.length ∧ Pair s l i j := by
  obtain ⟨p, hp, q, hq, b, hb, rfl⟩ := h
  have hp2 := hl p hp
  have hq2 := hl q hq
  obtain ⟨i, hi, rfl⟩ := List.mem_iff_getElem.1 hp
  obtain ⟨j, hj, rfl⟩ := List.mem_iff_getElem.1 hq
  have e1 : ((l[i]).extract 0 b).size = b := by rw [ByteArray.size_extract]; omega
  have e2 : ((l[j]).extract b 256).size = 256 - b := by rw [ByteArray.size_extract]; omega
  refine ⟨i, j, hi, hj, b, ⟨hb, fun m hm => ?_⟩, ⟨hb, fun m hm1 hm2 => ?_⟩⟩
  · rw [rdOf_at l i hi, bt_val _ m (by rw [ByteArray.size_append]; omega), bt_val _ m (by omega), ByteArray.getElem_append_left (by omega), ByteArray.getElem_extract]
    simp
  · rw [rdOf_at l j hj, bt_val _ m (by rw [ByteArray.size_append]; omega), bt_val _ m (by omega), ByteArray.getElem_append_right (by omega), ByteArray.getElem_extract]
    simp only [e1, show b + (m - b) = m by omega]

theorem bytes_beq (a b : ByteArray) : (a.toList == b.toList) = true ↔ a = b := by
  rw [ByteArray.toList_eq, ByteArray.toList_eq, beq_iff_eq, Array.toList_inj]
  constructor
  · intro h; cases a; cases b; simpa using h
  · rintro rfl; rfl

section
variable {s : ByteArray} {l : List ByteArray} (hs : s.size = 256) (hl : ∀ x ∈ l, x.size = 256) (hm : l.length ≤ 1000) {P : Bool × Bool → Prop}

include hl in
theorem rd_size (i : Nat) (h : i < l.length) : (rdOf ByteArray.empty l (i : Int)).size = 256 := by
  rw [rdOf_at l i h]; exact hl _ (List.getElem_mem h)

include hs hl hm in
theorem l4_comes (x5 : Bool) (i K j : Nat) (hj : j < l.length)
    (hnext : ∀ y : Bool, (x5 = true → y = true) → (∀ b, b ≤ K → Rest s (rdOf ByteArray.empty l (j : Int)) b → y = true) → Comes (fun k => foyerlaw05_mixed.l3 k s l false y (i : Int) (K : Int) ((j + 1 : Nat) : Int)) P) :
    ∀ n : Nat, n ≤ 256 → Comes (fun k => foyerlaw05_mixed.l4 k s l false x5 (i : Int) (K : Int) (j : Int) (n : Int)) P := by
  have hw : wrap64 ((j : Int) + 1) = ((j + 1 : Nat) : Int) := by unfold wrap64; omega
  have hout : ∀ n : Nat, (∀ b, Rest s (rdOf ByteArray.empty l (j : Int)) b → b ≤ K → n ≤ K) → Comes (fun k => if x5 = true then (foyerlaw05_mixed.l3 k s l false true (i : Int) (K : Int) (wrap64 ((j : Int) + 1))) else (foyerlaw05_mixed.l3 k s l false (decide ((n : Int) ≤ (K : Int))) (i : Int) (K : Int) (wrap64 ((j : Int) + 1)))) P := by
    intro n hb
    rw [hw]
    cases x5 with
    | true => simp only [if_true]; exact hnext true (fun _ => rfl) (fun _ _ _ => rfl)
    | false =>
      simp only [Bool.false_eq_true, if_false]
      exact hnext _ (fun h => by cases h) (fun b hbK hR => decide_eq_true (by have := hb b hR hbK; omega))
  have hsz := rd_size hl j hj
  intro n
  induction n with
  | zero =>
    intro _
    refine Comes.step (fun k => ?_) (hout 0 fun _ _ _ => Nat.zero_le _)
    simp only [foyerlaw05_mixed.l4]
    rw [if_neg (by omega)]
  | succ n ih =>
    intro hn
    have hw2 : wrap64 (((n + 1 : Nat) : Int) - 1) = (n : Int) := by unfold wrap64; omega
    by_cases hbt : bt s (n : Int) = bt (rdOf ByteArray.empty l (j : Int)) (n : Int)
    · refine Comes.step (fun k => ?_) (ih (by omega))
      simp only [foyerlaw05_mixed.l4]
      rw [hw2, if_pos (by omega), if_pos (by omega), if_pos (by omega), if_pos (by omega), if_pos (by omega), if_pos (by omega), if_pos hbt]
    · refine Comes.step (fun k => ?_) (hout (n + 1) fun b hR hbK => ?_)
      · simp only [foyerlaw05_mixed.l4]
        rw [hw2, if_pos (by omega), if_pos (by omega), if_pos (by omega), if_pos (by omega), if_pos (by omega), if_pos (by omega), if_neg hbt]
      · rcases Nat.lt_or_ge n b with h | h
        · omega
        · exact absurd (hR.2 n h (by omega)) hbt

def Inv1 (s : ByteArray) (l : List ByteArray) (i : Nat) (y : Bool) : Prop := ∀ i', i' < i → ∀ j, j < l.length → Pair s l i' j → y = true

include hs hl hm in
theorem l3_comes (i K : Nat) (hi : i < l.length) (hK : ∀ a, Front s (rdOf ByteArray.empty l (i : Int)) a → a ≤ K)
    (hnext : ∀ y : Bool, Inv1 s l (i + 1) y → Comes (fun k => foyerlaw05_mixed.l1 k s l false y ((i + 1 : Nat) : Int)) P) :
    ∀ d j : Nat, j + d = l.length → ∀ x5 : Bool, Inv1 s l i x5 → (∀ j', j' < j → Pair s l i j' → x5 = true) → Comes (fun k => foyerlaw05_mixed.l3 k s l false x5 (i : Int) (K : Int) (j : Int)) P := by
  have hw : wrap64 ((i : Int) + 1) = ((i + 1 : Nat) : Int) := by unfold wrap64; omega
  intro d
  induction d with
  | zero =>
    intro j hj x5 h1 h2
    refine Comes.step (fun k => ?_) (hnext x5 fun i' hi' j' hj' hp => ?_)
    · simp only [foyerlaw05_mixed.l3]
      rw [if_neg (by omega), hw]
    · rcases Nat.lt_or_ge i' i with h | h
      · exact h1 i' h j' hj' hp
      · obtain rfl : i' = i := by omega
        exact h2 j' (by omega) hp
  | succ d ih =>
    intro j hj x5 h1 h2
    refine Comes.step (fun k => ?_) (l4_comes hs hl hm x5 i K j (by omega) (fun y hxy hy => ih (j + 1) (by omega) y (fun i' hi' j' hj' hp => hxy (h1 i' hi' j' hj' hp)) (fun j' hj' hp => ?_)) 256 (Nat.le_refl _))
    · simp only [foyerlaw05_mixed.l3]
      rw [if_pos (by omega), hs]
    · rcases Nat.lt_or_ge j' j with h | h
      · exact hxy (h2 j' h hp)
      · obtain rfl : j' = j := by omega
        obtain ⟨b, hF, hR⟩ := hp
        exact hy b (hK b hF) hR

include hs hl hm in
theorem l2_comes (i : Nat) (hi : i < l.length) (x5 : Bool) (h1 : Inv1 s l i x5)
    (hnext : ∀ y : Bool, Inv1 s l (i + 1) y → Comes (fun k => foyerlaw05_mixed.l1 k s l false y ((i + 1 : Nat) : Int)) P) :
    ∀ d n : Nat, n + d = 256 → Comes (fun k => foyerlaw05_mixed.l2 k s l false x5 (i : Int) (n : Int)) P := by
  have hsz := rd_size hl i hi
  have hout : ∀ K : Nat, (∀ a, Front s (rdOf ByteArray.empty l (i : Int)) a → a ≤ K) → Comes (fun k => foyerlaw05_mixed.j4 k s l false x5 (i : Int) (K : Int)) P := fun K hK =>
    Comes.step (fun k => rfl) (l3_comes hs hl hm i K hi hK hnext l.length 0 (by omega) x5 h1 (fun j' hj' => absurd hj' (by omega)))
  intro d
  induction d with
  | zero =>
    intro n hn
    refine Comes.step (fun k => ?_) (hout n fun a hF => by have := hF.1; omega)
    simp only [foyerlaw05_mixed.l2]
    rw [if_neg (by omega)]
  | succ d ih =>
    intro n hn
    have hw : wrap64 ((n : Int) + 1) = ((n + 1 : Nat) : Int) := by unfold wrap64; omega
    by_cases hbt : bt s (n : Int) = bt (rdOf ByteArray.empty l (i : Int)) (n : Int)
    · refine Comes.step (fun k => ?_) (ih (n + 1) (by omega))
      simp only [foyerlaw05_mixed.l2]
      rw [if_pos (by omega), if_pos (by omega), if_pos (by omega), if_pos (by omega), if_pos (by omega), if_pos hbt, hw]
    · refine Comes.step (fun k => ?_) (hout n fun a hF => ?_)
      · simp only [foyerlaw05_mixed.l2]
        rw [if_pos (by omega), if_pos (by omega), if_pos (by omega), if_pos (by omega), if_pos (by omega), if_neg hbt]
      · rcases Nat.lt_or_ge n a with h | h
        · exact absurd (hF.2 n h) hbt
        · exact h

include hs hl hm in
theorem l1_comes (hP : ∀ y : Bool, (∀ i j, i < l.length → j < l.length → Pair s l i j → y = true) → P (false, y)) :
    ∀ d i : Nat, i + d = l.length → ∀ x5 : Bool, Inv1 s l i x5 → Comes (fun k => foyerlaw05_mixed.l1 k s l false x5 (i : Int)) P := by
  intro d
  induction d with
  | zero =>
    intro i hi x5 h1
    refine Comes.step (f := fun k => foyerlaw05_mixed.j2 k s l false x5 (i : Int) false) (fun k => ?_) (Comes.step (f := fun _ => some (false, x5)) (fun k => ?_) ⟨0, _, rfl, hP x5 fun i' j' hi' hj' hp => h1 i' (by omega) j' hj' hp⟩)
    · simp only [foyerlaw05_mixed.l1]
      rw [if_neg (by omega)]
    · simp only [foyerlaw05_mixed.j2]
      rw [if_neg (by simp)]
  | succ d ih =>
    intro i hi x5 h1
    refine Comes.step (f := fun k => foyerlaw05_mixed.j2 k s l false x5 (i : Int) true) (fun k => ?_) (Comes.step (fun k => ?_) (l2_comes hs hl hm i (by omega) x5 h1 (fun y hy => ih (i + 1) (by omega) y hy) 256 0 (by omega)))
    · simp only [foyerlaw05_mixed.l1]
      rw [if_pos (by omega)]
      rfl
    · simp only [foyerlaw05_mixed.j2]
      rw [if_pos trivial]
      rfl

include hs hl hm in
theorem l0_comes (hP : ∀ y : Bool, s ∉ l → (∀ i j, i < l.length → j < l.length → Pair s l i j → y = true) → P (false, y)) (hP2 : ∀ y : Bool, s ∈ l → P (true, y)) :
    ∀ d i : Nat, i + d = l.length → ∀ x4 : Bool, (x4 = true ↔ s ∈ l.take i) → Comes (fun k => foyerlaw05_mixed.l0 k s l x4 false (i : Int)) P := by
  intro d
  induction d with
  | zero =>
    intro i hi x4 hx
    rw [List.take_of_length_le (by omega)] at hx
    cases x4 with
    | true =>
      have hsl := hx.1 rfl
      refine Comes.step (f := fun k => foyerlaw05_mixed.l1 k s l true false 0) (fun k => ?_) (Comes.step (f := fun k => foyerlaw05_mixed.j2 k s l true false 0 false) (fun k => ?_) (Comes.step (f := fun _ => some (true, false)) (fun k => ?_) ⟨0, _, rfl, hP2 _ hsl⟩))
      · simp only [foyerlaw05_mixed.l0]
        rw [if_neg (by omega)]
      · simp only [foyerlaw05_mixed.l1]
        rw [if_pos (by have := List.length_pos_of_mem hsl; omega)]
        rfl
      · simp only [foyerlaw05_mixed.j2]
        rw [if_neg (by simp)]
    | false =>
      have hsl : s ∉ l := fun h => by cases hx.2 h
      refine Comes.step (f := fun k => foyerlaw05_mixed.l1 k s l false false ((0 : Nat) : Int)) (fun k => ?_) (l1_comes hs hl hm (fun y hy => hP y hsl hy) l.length 0 (by omega) false (fun i' hi' => absurd hi' (by omega)))
      simp only [foyerlaw05_mixed.l0]
      rw [if_neg (by omega)]
      rfl
  | succ d ih =>
    intro i hi x4 hx
    have hil : i < l.length := by omega
    have hw : wrap64 ((i : Int) + 1) = ((i + 1 : Nat) : Int) := by unfold wrap64; omega
    have ht : s ∈ l.take (i + 1) ↔ s ∈ l.take i ∨ s = l[i] := by
      rw [List.take_add_one, List.getElem?_eq_getElem hil]
      show s ∈ l.take i ++ [l[i]] ↔ _
      rw [List.mem_append, List.mem_singleton]
    cases x4 with
    | true =>
      refine Comes.step (fun k => ?_) (ih (i + 1) (by omega) true ⟨fun _ => ht.2 (.inl (hx.1 rfl)), fun _ => rfl⟩)
      simp only [foyerlaw05_mixed.l0]
      rw [if_pos (by omega), hw, if_pos trivial]
    | false =>
      refine Comes.step (fun k => ?_) (ih (i + 1) (by omega) (s.toList == l[i].toList) ?_)
      · simp only [foyerlaw05_mixed.l0]
        rw [if_pos (by omega), hw, if_neg (by simp), if_pos (by omega), rdOf_at l i hil]
      · rw [bytes_beq, ht]
        exact ⟨.inr, fun h => by rcases h with h | h; exact absurd (hx.2 h) (by simp); exact h⟩
end

/-- **mixed.** -/
theorem mixed_calls (s : ByteArray) (l : List ByteArray) (A : Option Addr) (c : Nat) (w : World) (hs : s.size = 256) (hl : ∀ x ∈ l, x.size = 256) (hm : l.length ≤ 1000) (hC : Kd.C Kd.string w A l.length l) (hc : l.length ≤ c) :
    Calls Try.prog 36 #[.string s, .slice A l.length c] w fun e w' => ∃ a b, e = .returned (.tuple #[.bool a, .bool b]) ∧ Below w.heap.size w w' ∧ (a = false → s ∉ l) ∧ (s ∈ l → a = true) ∧ (Mixed s l → a = false → b = true) := by
  obtain ⟨k, ⟨a, b⟩, h, hr⟩ := l0_comes hs hl hm (P := fun r => (r.1 = false → s ∉ l) ∧ (s ∈ l → r.1 = true) ∧ (Mixed s l → r.1 = false → r.2 = true)) (fun y h hp => ⟨fun _ => h, fun h' => absurd h' h, fun hx _ => by
    obtain ⟨i, j, hi, hj, hp'⟩ := mixed_pair hl hx
    exact hp i j hi hj hp'⟩) (fun y h => ⟨(fun h' => by cases h'), (fun _ => rfl), (fun _ h' => by cases h')⟩) l.length 0 (by omega) false (by simp)
  refine (foyerlaw05_mixed.calls k s A c l a b w hC hc ?_).mono fun e w' ⟨he, hd⟩ => ⟨a, b, he, hd.below, hr⟩
  simpa [foyerlaw05_mixed.f] using h
end Go.Proofs.Ytknibnbepmdapaa
