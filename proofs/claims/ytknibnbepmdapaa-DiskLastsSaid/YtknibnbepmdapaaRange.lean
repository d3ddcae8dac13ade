/-
Blocks of the heap that are known whole; arrays of encoded values; small things for walks.
-/
import Derived.Test.YtknibnbepmdapaaWWords
import Derived.Deep.OwnRows
import Derived.Lib.Hide
import Derived.RangeFuncFrom
import Derived.TacticsIn
namespace Go.Proofs.Ytknibnbepmdapaa
open Go.RowKit Go.Proofs.YtknibnbepmdapaaW.PrintWords

/-- Block g is just these cells, none frozen. -/
def Blk (w : World) (g : Nat) (t : TypeId) (cs : Array Value) : Prop := w.heap[g]? = some (.cells cs t (0, 0))

section
variable {w w' : World} {g : Nat} {t : TypeId} {cs : Array Value}
theorem Blk.lt (h : Blk w g t cs) : g < w.heap.size := blk_lt h
theorem Blk.cell (h : Blk w g t cs) (i : Nat) : w.cell? ⟨g, i, none⟩ = cs[i]? := blk_cell h i
theorem Blk.frozen (h : Blk w g t cs) (i : Nat) : w.frozen? ⟨g, i, none⟩ = false := blk_frozen h i
theorem Blk.new (w : World) (t : TypeId) (cs : Array Value) : Blk (w.alloc (.cells cs t)) w.heap.size t cs := blk_new w _
theorem Blk.drew (h : Blk w g t cs) : Blk w.drew g t cs := h
theorem Blk.drewN (h : Blk w g t cs) (n : Nat) : Blk (w.drewN n) g t cs := h
theorem Blk.alloc (h : Blk w g t cs) (o : Obj) : Blk (w.alloc o) g t cs := blk_alloc h o
theorem Blk.set (h : Blk w g t cs) (i : Nat) (u : Value) : Blk (w.setCell ⟨g, i, none⟩ u) g t (cs.setIfInBounds i u) := blk_set h i u
theorem Blk.far (h : Blk w g t cs) {p : Addr} (hp : g ≠ p.block) (u : Value) : Blk (w.setCell p u) g t cs := blk_far h hp u
theorem Blk.stay (h : Blk w g t cs) {b o : Nat} (hne : g ≠ b) (u : Value) : Blk (w.setCell ⟨b, o, none⟩ u) g t cs := blk_far h (p := ⟨b, o, none⟩) hne u
theorem Blk.below (h : Blk w g t cs) (hb : Below w.heap.size w w') : Blk w' g t cs := blk_below h hb
theorem Blk.belowB {B : Nat} (h : Blk w g t cs) (hb : Below B w w') (hg : g < B) : Blk w' g t cs := (hb.block g hg).trans h
theorem Blk.grown {row : Option Nat} (h : Blk w g t cs) (hb : w.grownBy w' row) (hg : some g ≠ row) : Blk w' g t cs := blk_grown h hb hg
theorem Blk.ne {g' : Nat} {t' : TypeId} {cs' : Array Value} (h : Blk w g t cs) (h' : Blk w g' t' cs') (hne : t ≠ t') : g ≠ g' := blk_ne h h' hne
theorem Blk.not_other {g' : Nat} {o : Obj} (h : Blk w g t cs) (h' : w.heap[g']? = some o) (ho : o.isCells = false) : g ≠ g' := by
  rintro rfl
  unfold Blk at h
  rw [h] at h'
  cases h'
  simp [Obj.isCells] at ho
theorem Blk.own {B : Nat} {row : Option Nat} (h : Blk w g t cs) (hg : w.grownBy w' row) (hr : ∀ r, row = some r → B ≤ r ∧ ∃ o : Obj, w.heap[r]? = some o ∧ o.isCells = false) : Blk w' g t cs :=
  h.grown hg fun e => by
    obtain ⟨_, o, ho, hc⟩ := hr g e.symm
    exact h.not_other ho hc rfl
theorem Blk.of_new (h : Blk w g t cs) (hw : w' = w) : Blk w' g t cs := by rw [hw]; exact h
end

/-- A row of encoded values. -/
def encV {α : Type} (enc : α → Value) (xs : List α) : Array Value := (xs.map enc).toArray

section
variable {α : Type} {enc : α → Value}
theorem encV_size (xs : List α) : (encV enc xs).size = xs.length := by simp [encV]
theorem encV_get (xs : List α) (i : Nat) : (encV enc xs)[i]? = xs[i]?.map enc := by simp [encV]
theorem encV_getD (xs : List α) (d : α) {i : Nat} (h : i < xs.length) : (encV enc xs)[i]? = some (enc (xs.getD i d)) := by
  rw [encV_get, List.getElem?_eq_getElem h, Option.map_some, List.getD_eq_getElem?_getD, List.getElem?_eq_getElem h, Option.getD_some]
theorem encV_set (xs : List α) (i : Nat) (v : α) : (encV enc xs).setIfInBounds i (enc v) = encV enc (xs.set i v) := by
  unfold encV
  rw [List.setIfInBounds_toArray, List.map_set]
theorem encV_replicate (n : Nat) (v : α) : encV enc (List.replicate n v) = Array.replicate n (enc v) := by simp [encV]
theorem encV_toList (xs : List α) : (encV enc xs).toList = xs.map enc := by simp [encV]
end

theorem Blk.owns {α : Type} {enc : α → Value} {w : World} {g base : Nat} {e : TypeId} {xs : List α} (h : Blk w g e (encV enc xs)) (hb : base ≤ g) (hm : xs.length ≤ maxLen) :
    w.ownsRow base e 1 (.slice (some ⟨g, 0, none⟩) xs.length xs.length) xs.length (encs enc xs) :=
  ⟨by simp [encs], .inr ⟨g, _, _, rfl, hb, h, Nat.le_refl _, hm, by simp [encV_size], by
    rw [encV_toList, Nat.mul_one]; unfold encs; exact List.take_of_length_le (by simp)⟩⟩

/-- The block for a loop's deferred calls is shut: what is known whole stays. -/
theorem Blk.putObj {w : World} {g t l : Nat} {cs : Array Value} {o : Obj} (h : Blk w g t cs) (o' : Obj) (hl : w.heap[l]? = some o) (ho : o.isCells = false) : Blk (w.putObj l o') g t cs :=
  (World.putObj_heap_other (h.not_other hl ho)).trans h

theorem cell_three_new (w : World) (x y z : Value) (t : TypeId) : ∀ j u, [x, y, z][j]? = some u → (w.alloc (.cells #[x, y, z] t)).cell? ((⟨w.heap.size, 0, none⟩ : Addr).add j) = some u := by
  intro j u h
  have hb := Blk.new w t #[x, y, z]
  match j, h with
  | 0, h => exact (hb.cell 0).trans h
  | 1, h => exact (hb.cell 1).trans h
  | 2, h => exact (hb.cell 2).trans h
  | j + 3, h => simp at h

theorem keepsOthers_of_below {W W' : World} (h : Below W.heap.size W W') : KeepsOthers W W' :=
  ⟨h.size, fun k _ hk _ => (h.block k (Array.getElem?_eq_some_iff.1 hk).1).trans hk⟩

theorem madeCells_one (z : Value) (n : Nat) : madeCells #[z] n = Array.replicate n z := by
  unfold madeCells
  apply Array.ext
  · simp
  · intro i h1 h2
    simp [Nat.mod_one]

end Go.Proofs.Ytknibnbepmdapaa

/-
A range over a function with two loop variables that are plain slots: the loop's law with the frame behind the assignments worked out.
-/
namespace Go.Proofs.Ytknibnbepmdapaa
open Go.RowKit

theorem wpIn_assign1 {F : Fence} {n : Nat} {P : Program} {id d p ty : Nat} {pos : String} {Q : Exit → Act → World → Prop} {a : Act} {w : World}
    (h : Q .normal (a.put (some d) (a.tmps.getD p undef)) w) :
    (Code.region id #[{ dst := some d, op := .assign (.tmp p), type := ty, pos := pos, after := #[], guard := none }] false).wpIn F n P Q a w := by
  refine wpIn_region_lit ?_
  simp only [wpListIn, Region.wanted, if_true]
  refine ⟨fun f hf => by simp [Oper.about] at hf, ?_⟩
  rw [Oper.semAt_eq _ _ _ (fun c => by simp)]
  exact h

section
variable {F : Fence} {n : Nat} {P : Program}

/-- The frame in which the body of such a loop runs. -/
def frame2 (tmps : Array Value) (p0 p1 d0 d1 : Nat) (v0 v1 : Value) : Array Value :=
  (((tmps.setIfInBounds p0 v0).setIfInBounds p1 v1).setIfInBounds d0 v0).setIfInBounds d1 v1

theorem wpIn_range2 {α : Type} {g : Operand} {p0 p1 d0 d1 i0 i1 ty0 ty1 : Nat} {pos0 pos1 : String} {body : Code} {Q : Exit → Act → World → Prop} {a : Act} {w : World}
    (hro : F.round = none) (h1 : 1 ≤ n) {gf : Nat} {lb : Array Value} (hg : a.eval g = .func (.func gf) #[] lb) (hFg : F.fn gf) (eg : ∀ args w, (callFunc gf args).run P w = .ok (.enter gf args) w)
    (hp : p0 ≠ p1 ∧ p0 < a.tmps.size ∧ p1 < a.tmps.size ∧ d0 ≠ p1)
    {e0 e1 : α → Value} {Kp : World → World → Prop} {S Sp : List α → Prop} {N : Nat} {w0 : World} (hseq : SeqStopsK F (n - 1) P gf lb (fun x => #[e0 x, e1 x]) Kp S Sp N w0)
    (hKt : ∀ {A B C : World}, Kp A B → Kp B C → Kp A C) (hKb : ∀ (W : World) (l : Nat) (o o' : Obj), w.heap.size ≤ l → W.heap[l]? = some o → o.isCells = false → o.isWalk = false → Kp W (W.putObj l o')) (hb0 : Below w0.heap.size w0 w)
    (I : List α → World → Prop) (Ix : Code → List α → World → Prop) (hI : OwnFrom w.heap.size I) (hIx : ∀ c, OwnFrom w.heap.size (Ix c)) (h0 : I [] w)
    (hbody : ∀ (l : Nat) (pre : List α) (x : α) (W : World), I pre W → pre.length < N → body.wpIn (F.inRound l) (n - 1 - 1) P (ownPostK Kp I Ix (pre ++ [x]) W) { tmps := frame2 a.tmps p0 p1 d0 d1 (e0 x) (e1 x), defers := [] } W)
    (hdone : ∀ (D : Nat) (xs : List α) (W : World), w.heap.size ≤ D → S xs → I xs W → W.heap[D]? = some (.deferred (some [])) → Q .normal { a with defers := { target := .collected D, args := #[] } :: a.defers } W)
    (hstop : ∀ (D : Nat) (c : Code) (pre : List α) (W : World), w.heap.size ≤ D → Sp pre → Ix c pre W → W.heap[D]? = some (.deferred (some [])) → c.wpIn F n P Q { a with defers := { target := .collected D, args := #[] } :: a.defers } W) :
    (Code.rangeFunc g #[p0, p1] (.seq
      (.region i0 #[{ dst := some d0, op := .assign (.tmp p0), type := ty0, pos := pos0, after := #[], guard := none }] false)
      (.region i1 #[{ dst := some d1, op := .assign (.tmp p1), type := ty1, pos := pos1, after := #[], guard := none }] false)) body).wpIn F n P Q a w := by
  refine wpIn_rangeFunc_ownF hro h1 hg hFg eg hseq hKt hKb hb0 (fun _ => rfl) I Ix hI hIx h0
    (fun x => { tmps := frame2 a.tmps p0 p1 d0 d1 (e0 x) (e1 x), defers := [] }) ?_ hbody hdone hstop
  intro l x W K hK
  obtain ⟨hne, hs0, hs1, hd⟩ := hp
  have hz : (Array.zip #[p0, p1] #[e0 x, e1 x]).foldl (fun t (p, v) => t.setIfInBounds p v) a.tmps = (a.tmps.setIfInBounds p0 (e0 x)).setIfInBounds p1 (e1 x) := by simp
  rw [hz]
  refine wpIn_seq (wpIn_assign1 (wpIn_assign1 ?_))
  have ha : ((a.tmps.setIfInBounds p0 (e0 x)).setIfInBounds p1 (e1 x)).getD p0 undef = e0 x := by
    rw [Array.getD_eq_getD_getElem?, Array.getElem?_setIfInBounds_ne (fun e => hne e.symm), Array.getElem?_setIfInBounds_self]
    simp [hs0]
  have hb : (((a.tmps.setIfInBounds p0 (e0 x)).setIfInBounds p1 (e1 x)).setIfInBounds d0 (e0 x)).getD p1 undef = e1 x := by
    rw [Array.getD_eq_getD_getElem?, Array.getElem?_setIfInBounds_ne hd, Array.getElem?_setIfInBounds_self]
    simp [hs1]
  simp only [Act.put, ha, hb]
  exact hK
end
end Go.Proofs.Ytknibnbepmdapaa
