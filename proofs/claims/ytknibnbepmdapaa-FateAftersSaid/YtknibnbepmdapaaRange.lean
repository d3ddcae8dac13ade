/-
A range over a function with two loop variables that are plain slots: the loop's law with the frame behind the assignments worked out.
-/
import Derived.RangeFuncFrom
import Derived.TacticsIn
import Derived.Test.YtknibnbepmdapaaHeap
namespace Go.Proofs.Ytknibnbepmdapaa
open Go.RowKit

theorem wpIn_assign1 {F : Fence} {n : Nat} {P : Program} {id d p ty : Nat} {pos : String} {Q : Exit → Act → World → Prop} {a : Act} {w : World}
    (h : Q .normal (a.put (some d) (a.tmps.getD p undef)) w) :
    (Code.region id #[{ dst := some d, op := .assign (.tmp p), type := ty, pos := pos, after := #[], guard := none }] false).wpIn F n P Q a w := by
  refine wpIn_region_lit ?_
  simp only [wpListIn, Region.wanted, if_true]
  refine ⟨fun f hf => by simp [Oper.about] at hf, ?_⟩
  rw [Oper.semAt_eq _ _ _ (fun c => by simp)]
  exact h

section
variable {F : Fence} {n : Nat} {P : Program}

/-- The frame in which the body of such a loop runs. -/
def frame2 (tmps : Array Value) (p0 p1 d0 d1 : Nat) (v0 v1 : Value) : Array Value :=
  (((tmps.setIfInBounds p0 v0).setIfInBounds p1 v1).setIfInBounds d0 v0).setIfInBounds d1 v1

theorem wpIn_range2 {α : Type} {g : Operand} {p0 p1 d0 d1 i0 i1 ty0 ty1 : Nat} {pos0 pos1 : String} {body : Code} {Q : Exit → Act → World → Prop} {a : Act} {w : World}
    (hro : F.round = none) (h1 : 1 ≤ n) {gf : Nat} {lb : Array Value} (hg : a.eval g = .func (.func gf) #[] lb) (hFg : F.fn gf) (eg : ∀ args w, (callFunc gf args).run P w = .ok (.enter gf args) w)
    (hp : p0 ≠ p1 ∧ p0 < a.tmps.size ∧ p1 < a.tmps.size ∧ d0 ≠ p1)
    {e0 e1 : α → Value} {Kp : World → World → Prop} {S Sp : List α → Prop} {N : Nat} {w0 : World} (hseq : SeqStopsK F (n - 1) P gf lb (fun x => #[e0 x, e1 x]) Kp S Sp N w0)
    (hKt : ∀ {A B C : World}, Kp A B → Kp B C → Kp A C) (hKb : ∀ (W : World) (l : Nat) (o o' : Obj), w.heap.size ≤ l → W.heap[l]? = some o → o.isCells = false → o.isWalk = false → Kp W (W.putObj l o')) (hb0 : Below w0.heap.size w0 w)
    (I : List α → World → Prop) (Ix : Code → List α → World → Prop) (hI : OwnFrom w.heap.size I) (hIx : ∀ c, OwnFrom w.heap.size (Ix c)) (h0 : I [] w)
    (hbody : ∀ (l : Nat) (pre : List α) (x : α) (W : World), I pre W → pre.length < N → body.wpIn (F.inRound l) (n - 1 - 1) P (ownPostK Kp I Ix (pre ++ [x]) W) { tmps := frame2 a.tmps p0 p1 d0 d1 (e0 x) (e1 x), defers := [] } W)
    (hdone : ∀ (D : Nat) (xs : List α) (W : World), w.heap.size ≤ D → S xs → I xs W → W.heap[D]? = some (.deferred (some [])) → Q .normal { a with defers := { target := .collected D, args := #[] } :: a.defers } W)
    (hstop : ∀ (D : Nat) (c : Code) (pre : List α) (W : World), w.heap.size ≤ D → Sp pre → Ix c pre W → W.heap[D]? = some (.deferred (some [])) → c.wpIn F n P Q { a with defers := { target := .collected D, args := #[] } :: a.defers } W) :
    (Code.rangeFunc g #[p0, p1] (.seq
      (.region i0 #[{ dst := some d0, op := .assign (.tmp p0), type := ty0, pos := pos0, after := #[], guard := none }] false)
      (.region i1 #[{ dst := some d1, op := .assign (.tmp p1), type := ty1, pos := pos1, after := #[], guard := none }] false)) body).wpIn F n P Q a w := by
  refine wpIn_rangeFunc_ownF hro h1 hg hFg eg hseq hKt hKb hb0 (fun _ => rfl) I Ix hI hIx h0
    (fun x => { tmps := frame2 a.tmps p0 p1 d0 d1 (e0 x) (e1 x), defers := [] }) ?_ hbody hdone hstop
  intro l x W K hK
  obtain ⟨hne, hs0, hs1, hd⟩ := hp
  have hz : (Array.zip #[p0, p1] #[e0 x, e1 x]).foldl (fun t (p, v) => t.setIfInBounds p v) a.tmps = (a.tmps.setIfInBounds p0 (e0 x)).setIfInBounds p1 (e1 x) := by simp
  rw [hz]
  refine wpIn_seq (wpIn_assign1 (wpIn_assign1 ?_))
  have ha : ((a.tmps.setIfInBounds p0 (e0 x)).setIfInBounds p1 (e1 x)).getD p0 undef = e0 x := by
    rw [Array.getD_eq_getD_getElem?, Array.getElem?_setIfInBounds_ne (fun e => hne e.symm), Array.getElem?_setIfInBounds_self]
    simp [hs0]
  have hb : (((a.tmps.setIfInBounds p0 (e0 x)).setIfInBounds p1 (e1 x)).setIfInBounds d0 (e0 x)).getD p1 undef = e1 x := by
    rw [Array.getD_eq_getD_getElem?, Array.getElem?_setIfInBounds_ne hd, Array.getElem?_setIfInBounds_self]
    simp [hs1]
  simp only [Act.put, ha, hb]
  exact hK
end
end Go.Proofs.Ytknibnbepmdapaa
