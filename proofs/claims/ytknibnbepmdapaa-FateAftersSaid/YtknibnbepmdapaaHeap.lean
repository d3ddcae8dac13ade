/-
Blocks of the heap that are known whole; arrays of encoded values; small things for walks.
-/
import Derived.Test.YtknibnbepmdapaaWWords
import Derived.Deep.OwnRows
import Derived.Lib.Hide
import Derived.RangeFuncFrom
namespace Go.Proofs.Ytknibnbepmdapaa
open Go.RowKit Go.Proofs.YtknibnbepmdapaaW.PrintWords

/-- Block g is just these cells, none frozen. -/
def Blk (w : World) (g : Nat) (t : TypeId) (cs : Array Value) : Prop := w.heap[g]? = some (.cells cs t (0, 0))

section
variable {w w' : World} {g : Nat} {t : TypeId} {cs : Array Value}
theorem Blk.lt (h : Blk w g t cs) : g < w.heap.size := blk_lt h
theorem Blk.cell (h : Blk w g t cs) (i : Nat) : w.cell? ⟨g, i, none⟩ = cs[i]? := blk_cell h i
theorem Blk.frozen (h : Blk w g t cs) (i : Nat) : w.frozen? ⟨g, i, none⟩ = false := blk_frozen h i
theorem Blk.new (w : World) (t : TypeId) (cs : Array Value) : Blk (w.alloc (.cells cs t)) w.heap.size t cs := blk_new w _
theorem Blk.drew (h : Blk w g t cs) : Blk w.drew g t cs := h
theorem Blk.drewN (h : Blk w g t cs) (n : Nat) : Blk (w.drewN n) g t cs := h
theorem Blk.alloc (h : Blk w g t cs) (o : Obj) : Blk (w.alloc o) g t cs := blk_alloc h o
theorem Blk.set (h : Blk w g t cs) (i : Nat) (u : Value) : Blk (w.setCell ⟨g, i, none⟩ u) g t (cs.setIfInBounds i u) := blk_set h i u
theorem Blk.far (h : Blk w g t cs) {p : Addr} (hp : g ≠ p.block) (u : Value) : Blk (w.setCell p u) g t cs := blk_far h hp u
theorem Blk.stay (h : Blk w g t cs) {b o : Nat} (hne : g ≠ b) (u : Value) : Blk (w.setCell ⟨b, o, none⟩ u) g t cs := blk_far h (p := ⟨b, o, none⟩) hne u
theorem Blk.below (h : Blk w g t cs) (hb : Below w.heap.size w w') : Blk w' g t cs := blk_below h hb
theorem Blk.belowB {B : Nat} (h : Blk w g t cs) (hb : Below B w w') (hg : g < B) : Blk w' g t cs := (hb.block g hg).trans h
theorem Blk.grown {row : Option Nat} (h : Blk w g t cs) (hb : w.grownBy w' row) (hg : some g ≠ row) : Blk w' g t cs := blk_grown h hb hg
theorem Blk.ne {g' : Nat} {t' : TypeId} {cs' : Array Value} (h : Blk w g t cs) (h' : Blk w g' t' cs') (hne : t ≠ t') : g ≠ g' := blk_ne h h' hne
theorem Blk.not_other {g' : Nat} {o : Obj} (h : Blk w g t cs) (h' : w.heap[g']? = some o) (ho : o.isCells = false) : g ≠ g' := by
  rintro rfl
  unfold Blk at h
  rw [h] at h'
  cases h'
  simp [Obj.isCells] at ho
theorem Blk.own {B : Nat} {row : Option Nat} (h : Blk w g t cs) (hg : w.grownBy w' row) (hr : ∀ r, row = some r → B ≤ r ∧ ∃ o : Obj, w.heap[r]? = some o ∧ o.isCells = false) : Blk w' g t cs :=
  h.grown hg fun e => by
    obtain ⟨_, o, ho, hc⟩ := hr g e.symm
    exact h.not_other ho hc rfl
theorem Blk.of_new (h : Blk w g t cs) (hw : w' = w) : Blk w' g t cs := by rw [hw]; exact h
end

/-- A row of encoded values. -/
def encV {α : Type} (enc : α → Value) (xs : List α) : Array Value := (xs.map enc).toArray

section
variable {α : Type} {enc : α → Value}
theorem encV_size (xs : List α) : (encV enc xs).size = xs.length := by simp [encV]
theorem encV_get (xs : List α) (i : Nat) : (encV enc xs)[i]? = xs[i]?.map enc := by simp [encV]
theorem encV_getD (xs : List α) (d : α) {i : Nat} (h : i < xs.length) : (encV enc xs)[i]? = some (enc (xs.getD i d)) := by
  rw [encV_get, List.getElem?_eq_getElem h, Option.map_some, List.getD_eq_getElem?_getD, List.getElem?_eq_getElem h, Option.getD_some]
theorem encV_set (xs : List α) (i : Nat) (v : α) : (encV enc xs).setIfInBounds i (enc v) = encV enc (xs.set i v) := by
  unfold encV
  rw [List.setIfInBounds_toArray, List.map_set]
theorem encV_replicate (n : Nat) (v : α) : encV enc (List.replicate n v) = Array.replicate n (enc v) := by simp [encV]
theorem encV_toList (xs : List α) : (encV enc xs).toList = xs.map enc := by simp [encV]
end

theorem Blk.owns {α : Type} {enc : α → Value} {w : World} {g base : Nat} {e : TypeId} {xs : List α} (h : Blk w g e (encV enc xs)) (hb : base ≤ g) (hm : xs.length ≤ maxLen) :
    w.ownsRow base e 1 (.slice (some ⟨g, 0, none⟩) xs.length xs.length) xs.length (encs enc xs) :=
  ⟨by simp [encs], .inr ⟨g, _, _, rfl, hb, h, Nat.le_refl _, hm, by simp [encV_size], by
    rw [encV_toList, Nat.mul_one]; unfold encs; exact List.take_of_length_le (by simp)⟩⟩

/-- The block for a loop's deferred calls is shut: what is known whole stays. -/
theorem Blk.putObj {w : World} {g t l : Nat} {cs : Array Value} {o : Obj} (h : Blk w g t cs) (o' : Obj) (hl : w.heap[l]? = some o) (ho : o.isCells = false) : Blk (w.putObj l o') g t cs :=
  (World.putObj_heap_other (h.not_other hl ho)).trans h

theorem cell_three_new (w : World) (x y z : Value) (t : TypeId) : ∀ j u, [x, y, z][j]? = some u → (w.alloc (.cells #[x, y, z] t)).cell? ((⟨w.heap.size, 0, none⟩ : Addr).add j) = some u := by
  intro j u h
  have hb := Blk.new w t #[x, y, z]
  match j, h with
  | 0, h => exact (hb.cell 0).trans h
  | 1, h => exact (hb.cell 1).trans h
  | 2, h => exact (hb.cell 2).trans h
  | j + 3, h => simp at h

theorem keepsOthers_of_below {W W' : World} (h : Below W.heap.size W W') : KeepsOthers W W' :=
  ⟨h.size, fun k _ hk _ => (h.block k (Array.getElem?_eq_some_iff.1 hk).1).trans hk⟩

theorem madeCells_one (z : Value) (n : Nat) : madeCells #[z] n = Array.replicate n z := by
  unfold madeCells
  apply Array.ext
  · simp
  · intro i h1 h2
    simp [Nat.mod_one]

end Go.Proofs.Ytknibnbepmdapaa
