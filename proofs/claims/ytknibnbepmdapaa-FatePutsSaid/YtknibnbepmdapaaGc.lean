/-
The document's Read (function 15): its contract.
-/
import Derived.Test.YtknibnbepmdapaaFe
import Derived.Test.YtknibnbepmdapaaReg2
import Derived.Test.YtknibnbepmdapaaPFateReadsx1
namespace Go.Proofs.Ytknibnbepmdapaa
open Go.RowKit Go.Shelf Go.Proofs.YtknibnbepmdapaaW.PrintWords Go.Proofs.YtknibnbepmdapaaW.PrintMore
attribute [local go_sem] Oper.semAt_some

/-- The numbers of those that came among the first k. -/
def cameN (l : List Bool) (k : Nat) : List Int := (cameL l k).map fun x => (x.2.val : Int)

theorem cameN_no (l : List Bool) {k : Nat} (h : l.getD k false = false) : cameN l (k + 1) = cameN l k := by unfold cameN; rw [cameL_no l h]
theorem cameN_yes (l : List Bool) {k : Nat} (hk : k < l.length) (h : l.getD k false = true) : cameN l (k + 1) = cameN l k ++ [(k : Int)] := by
  obtain ⟨hl, e⟩ := cameL_yes l hk h
  unfold cameN
  rw [e, List.map_append]
  rfl
theorem cameN_length (l : List Bool) (k : Nat) : (cameN l k).length ≤ k := by unfold cameN; rw [List.length_map]; exact cameL_length l k

theorem came_l0 (l : List Bool) (a b : Int) (hm : l.length ≤ 17592186044416) : ∀ (d m j : Nat), j + d = l.length → d < m → PFateReads.foyerref04_Came.l0 m (cameN l j) (j : Int) l a b = some (cameN l l.length)
  | d, 0, j, _, h => by omega
  | 0, m + 1, j, hj, _ => by
    obtain rfl : j = l.length := by omega
    unfold PFateReads.foyerref04_Came.l0
    rw [if_neg (by omega)]
  | d + 1, m + 1, j, hj, h => by
    have ih := came_l0 l a b hm d m (j + 1) (by omega) (by omega)
    have hlt : j < l.length := by omega
    have hlen := cameN_length l j
    have hw : wrap64 ((j : Int) + 1) = ((j + 1 : Nat) : Int) := by unfold wrap64; omega
    unfold PFateReads.foyerref04_Came.l0
    rw [if_pos (by omega), if_pos (by omega), hw]
    have hrd : rdOf false l (j : Int) = l.getD j false := by simp [rdOf]
    rw [hrd]
    cases hb : l.getD j false with
    | true => rw [if_pos rfl, if_pos (by omega), ← cameN_yes l hlt hb]; exact ih
    | false => rw [if_neg (by simp), ← cameN_no l hb]; exact ih

theorem came_ref (A : Option Addr) (c : Nat) (l : List Bool) (a b : Int) (w : World) (hm : l.length ≤ 17592186044416) (hr : Kd.C Kd.bool w A l.length l) (hc : l.length ≤ c) :
    Calls Try.prog 51 #[.agg #[.slice A l.length c, .int .i64 a, .int .i64 b]] w fun e w' => ∃ v0_ : Value, e = .returned (v0_) ∧ Kd.R (Kd.int .i64) 3 w' w.heap.size (fun _ => True) v0_ (cameN l l.length) ∧ Below w.heap.size w w' :=
  PFateReads.foyerref04_Came.calls (l.length + 1) A c l a b (cameN l l.length) w hr hc (came_l0 l a b hm l.length (l.length + 1) 0 (by omega) (by omega))

theorem many_ref (n : Int) (w : World) : Calls Try.prog 50 #[.int .i64 n] w fun e w' => e = .returned (.int .i64 (max 0 (min n 4096))) ∧ Below w.heap.size w w' := by
  have h := PFateReads.foyerref04_many.calls n (max 0 (min n 4096)) w (by
    show some (mx 0 (mn n 4096)) = _
    unfold mx mn
    congr 1
    split <;> split <;> omega)
  exact h.mono fun e w' he => ⟨he.1, he.2⟩

def bitR (cs : List Int) (i : Nat) : Bool := decide (i / 8 < cs.length) && (cs.getD (i / 8) 0 / maskI (i % 8) % 2 == 1)
def bitsR (cs : List Int) (k : Nat) : List Bool := (List.range k).map (bitR cs)

def refReadN (cs : List Int) (N : Nat) : List Bool × Int × Int :=
  if (N + 7) / 8 + 3 ≤ cs.length ∧ cs.getD ((N + 7) / 8) 0 < 128 ∧ 0 < (cameN (bitsR cs N) N).length then
    (bitsR cs N, (cameN (bitsR cs N) N).getD (cs.getD ((N + 7) / 8) 0 % ((cameN (bitsR cs N) N).length : Int)).toNat 0, (256 * cs.getD ((N + 7) / 8 + 1) 0 + cs.getD ((N + 7) / 8 + 2) 0) % 257)
  else (bitsR cs N, -1, 0)
end Go.Proofs.Ytknibnbepmdapaa
