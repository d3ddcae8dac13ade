/-
fate.After: what it computes; the laws for its copies; a range over an iterator of which one value is taken.
-/
import Derived.Laws.IdiomCopy
import Derived.Laws.CopyOwn
import Derived.Lib.LazyBuf
import Derived.Test.YtknibnbepmdapaaRange
import Derived.Test.YtknibnbepmdapaaPl
import Derived.Test.YtknibnbepmdapaaPFatex0
namespace Go.Proofs.Ytknibnbepmdapaa
open Go.RowKit Go.Shelf Go.Proofs.YtknibnbepmdapaaW.PrintWords Go.Proofs.Ytknibnbepmdapaa.PFate

theorem wpListIn_copy_run {F : Fence} {n : Nat} {P : Program} (w : World) {ops : Array Oper} {rest : List Oper} {o : Oper} {a : Act} {Q : Exit → Act → World → Prop} (hgd : o.guard = none) (d s : Operand) (t t' : TypeId)
    (ho : o.op = .call { callee := .builtin .copy, args := #[d, s], argTypes := #[t, t'] }) (v u : Value) (hd : a.eval d = v) (hs : a.eval s = u) {v' : Value} {w' : World}
    (hr : (Builtin.copy_ #[t, t'] o.type #[v, u]).run P w = .ok v' w') (h : wpListIn F n P ops Q rest (a.put o.dst v') w') : wpListIn F n P ops Q (o :: rest) a w := by
  refine wpListIn_plain hgd fun K hK' => ?_
  unfold Oper.wpIn
  refine ⟨?_, ?_⟩
  · simp [Oper.about, ho, resolve, Target.leads, Sem.run_pure]
  · rw [Oper.semAt_plain F _ _ (by rw [ho]; intro c hc'; cases hc')]
    simp [execOp, ho, resolve, invoke, builtin, hd, hs, hr, Result.andThen]
    exact hK' _ _ h

section
variable {F : Fence} {n : Nat} {P : Program}
/-- The frame in which the body of such a loop runs. -/
def frame1 (tmps : Array Value) (p0 p1 d1 : Nat) (v0 v1 : Value) : Array Value :=
  ((tmps.setIfInBounds p0 v0).setIfInBounds p1 v1).setIfInBounds d1 v1

theorem wpIn_range1 {α : Type} {g : Operand} {p0 p1 d1 i1 ty1 : Nat} {pos1 : String} {body : Code} {Q : Exit → Act → World → Prop} {a : Act} {w : World}
    (hro : F.round = none) (h1 : 1 ≤ n) {gf : Nat} {lb : Array Value} (hg : a.eval g = .func (.func gf) #[] lb) (hFg : F.fn gf) (eg : ∀ args w, (callFunc gf args).run P w = .ok (.enter gf args) w)
    (hp : p1 < a.tmps.size)
    {e0 e1 : α → Value} {Kp : World → World → Prop} {S Sp : List α → Prop} {N : Nat} {w0 : World} (hseq : SeqStopsK F (n - 1) P gf lb (fun x => #[e0 x, e1 x]) Kp S Sp N w0)
    (hKt : ∀ {A B C : World}, Kp A B → Kp B C → Kp A C) (hKb : ∀ (W : World) (l : Nat) (o o' : Obj), w.heap.size ≤ l → W.heap[l]? = some o → o.isCells = false → o.isWalk = false → Kp W (W.putObj l o')) (hb0 : Below w0.heap.size w0 w)
    (I : List α → World → Prop) (Ix : Code → List α → World → Prop) (hI : OwnFrom w.heap.size I) (hIx : ∀ c, OwnFrom w.heap.size (Ix c)) (h0 : I [] w)
    (hbody : ∀ (l : Nat) (pre : List α) (x : α) (W : World), I pre W → pre.length < N → body.wpIn (F.inRound l) (n - 1 - 1) P (ownPostK Kp I Ix (pre ++ [x]) W) { tmps := frame1 a.tmps p0 p1 d1 (e0 x) (e1 x), defers := [] } W)
    (hdone : ∀ (D : Nat) (xs : List α) (W : World), w.heap.size ≤ D → S xs → I xs W → W.heap[D]? = some (.deferred (some [])) → Q .normal { a with defers := { target := .collected D, args := #[] } :: a.defers } W)
    (hstop : ∀ (D : Nat) (c : Code) (pre : List α) (W : World), w.heap.size ≤ D → Sp pre → Ix c pre W → W.heap[D]? = some (.deferred (some [])) → c.wpIn F n P Q { a with defers := { target := .collected D, args := #[] } :: a.defers } W) :
    (Code.rangeFunc g #[p0, p1]
      (.region i1 #[{ dst := some d1, op := .assign (.tmp p1), type := ty1, pos := pos1, after := #[], guard := none }] false) body).wpIn F n P Q a w := by
  refine wpIn_rangeFunc_ownF hro h1 hg hFg eg hseq hKt hKb hb0 (fun _ => rfl) I Ix hI hIx h0
    (fun x => { tmps := frame1 a.tmps p0 p1 d1 (e0 x) (e1 x), defers := [] }) ?_ hbody hdone hstop
  intro l x W K hK
  have hz : (Array.zip #[p0, p1] #[e0 x, e1 x]).foldl (fun t (p, v) => t.setIfInBounds p v) a.tmps = (a.tmps.setIfInBounds p0 (e0 x)).setIfInBounds p1 (e1 x) := by simp
  rw [hz]
  refine wpIn_assign1 ?_
  have hb : ((a.tmps.setIfInBounds p0 (e0 x)).setIfInBounds p1 (e1 x)).getD p1 undef = e1 x := by
    rw [Array.getD_eq_getD_getElem?, Array.getElem?_setIfInBounds_self]
    simp [hp]
  simp only [Act.put, hb]
  exact hK
end

/-- The first bytes of d's, the others old's. -/
def overlay (d old : ByteArray) : ByteArray := strOfNums (bytesOf d ++ (bytesOf old).drop d.size)
theorem overlay_size (d old : ByteArray) (h : d.size ≤ old.size) : (overlay d old).size = old.size := by
  unfold overlay; rw [strOfNums_size, List.length_append, List.length_drop, bytesOf_length, bytesOf_length]; omega

def layAt (torn at_ i : Int) (data old : ByteArray) : ByteArray :=
  overlay (if i = torn then data.extract 0 (min (max at_ 0) 256).toNat else data) old

/-- What a write that came does, of all that stands. -/
def afterStep (l : List S43) (torn at_ : Int) (out : List ByteArray) (i : Nat) : List ByteArray :=
  if i < l.length ∧ 0 ≤ (rd_T43 l i).f0 ∧ (rd_T43 l i).f0 < out.length ∧ (rd_T43 l i).f1.size = 256 then
    out.set (rd_T43 l i).f0.toNat (layAt torn at_ i (rd_T43 l i).f1 (out.getD (rd_T43 l i).f0.toNat ByteArray.empty))
  else out

def afterFold {N : Nat} (l : List S43) (torn at_ : Int) (was : List ByteArray) (xs : List (Fin N × Fin N)) : List ByteArray := xs.foldl (fun o x => afterStep l torn at_ o x.2.val) was
theorem afterFold_snoc {N : Nat} (l : List S43) (torn at_ : Int) (was : List ByteArray) (xs : List (Fin N × Fin N)) (x : Fin N × Fin N) : afterFold l torn at_ was (xs ++ [x]) = afterStep l torn at_ (afterFold l torn at_ was xs) x.2.val := by simp [afterFold]
def fateAfter (was : List ByteArray) (l : List S43) (came : List Bool) (torn at_ : Int) : List ByteArray := afterFold l torn at_ was (cameL came came.length)

def All256 (l : List ByteArray) : Prop := ∀ s ∈ l, s.size = 256

theorem extract_size (d : ByteArray) (m : Nat) : (d.extract 0 m).size = min m d.size := by simp [ByteArray.size_extract]

theorem layAt_size (torn at_ i : Int) (data old : ByteArray) (hd : data.size = 256) (ho : old.size = 256) : (layAt torn at_ i data old).size = 256 := by
  unfold layAt
  rw [overlay_size, ho]
  split
  · rw [extract_size]; omega
  · omega

theorem afterStep_length (l : List S43) (torn at_ : Int) (out : List ByteArray) (i : Nat) : (afterStep l torn at_ out i).length = out.length := by
  unfold afterStep; split <;> simp

theorem afterStep_all (l : List S43) (torn at_ : Int) (out : List ByteArray) (i : Nat) (h : All256 out) : All256 (afterStep l torn at_ out i) := by
  unfold afterStep
  split
  · rename_i hc
    intro s hs
    rcases List.mem_or_eq_of_mem_set hs with hs | rfl
    · exact h s hs
    · refine layAt_size _ _ _ _ _ hc.2.2.2 (h _ ?_)
      have hlt : (rd_T43 l i).f0.toNat < out.length := by omega
      rw [List.getD_eq_getElem?_getD, List.getElem?_eq_getElem hlt, Option.getD_some]
      exact List.getElem_mem hlt
  · exact h

theorem afterFold_length {N : Nat} (l : List S43) (torn at_ : Int) : ∀ (xs : List (Fin N × Fin N)) (was : List ByteArray), (afterFold l torn at_ was xs).length = was.length
  | [], _ => rfl
  | x :: xs, was => by
    show (afterFold l torn at_ (afterStep l torn at_ was x.2.val) xs).length = _
    rw [afterFold_length l torn at_ xs, afterStep_length]

theorem afterFold_all {N : Nat} (l : List S43) (torn at_ : Int) : ∀ (xs : List (Fin N × Fin N)) (was : List ByteArray), All256 was → All256 (afterFold l torn at_ was xs)
  | [], _, h => h
  | x :: xs, was, h => afterFold_all l torn at_ xs _ (afterStep_all l torn at_ was x.2.val h)

/-- Behind the last write nothing comes any more. -/
theorem afterFold_stop (l : List S43) (torn at_ : Int) (was : List ByteArray) (came : List Bool) {k : Nat} (hk : l.length ≤ k) : ∀ d, afterFold l torn at_ was (cameL came (k + d)) = afterFold l torn at_ was (cameL came k)
  | 0 => rfl
  | d + 1 => by
    rw [← afterFold_stop l torn at_ was came hk d]
    show afterFold l torn at_ was (if h : k + d < came.length ∧ (cameL came (k + d)).length < came.length then _ else _) = _
    split
    · split
      · rw [afterFold_snoc]
        unfold afterStep
        rw [if_neg (fun h => absurd h.1 (by show ¬ k + d < l.length; omega))]
        rfl
      · rfl
    · rfl

theorem cameL_lt (l : List Bool) : ∀ k, ∀ x ∈ cameL l k, x.2.val < k
  | 0, x, h => by cases h
  | k + 1, x, h => by
    unfold cameL at h
    split at h
    · split at h
      · rcases List.mem_append.1 h with h | h
        · have := cameL_lt l k x h; omega
        · rw [List.mem_singleton] at h; subst h; simp
      · have := cameL_lt l k x h; omega
    · have := cameL_lt l k x h; omega

theorem afterFold_pre (l : List S43) (torn at_ : Int) (was : List ByteArray) (came : List Bool) {k : Nat} (hk : k ≤ came.length) {pre : List (Fin came.length × Fin came.length)} (hp : pre = cameL came k) {x : Fin came.length × Fin came.length} (hx : x ∈ pre) (hl : l.length ≤ x.2.val) :
    afterFold l torn at_ was pre = fateAfter was l came torn at_ := by
  subst hp
  have := cameL_lt came k x hx
  have h := afterFold_stop l torn at_ was came (k := k) (by omega) (came.length - k)
  rw [show k + (came.length - k) = came.length by omega] at h
  exact h.symm

/-! ### The copies -/
/-- The first copy: of a row of strings. -/
theorem copy_strings (was : List ByteArray) (A : Option Addr) (c G : Nat) (w : World) (hB : Blk w G 9 (encV Value.string (List.replicate was.length (⟨#[]⟩ : ByteArray)))) (hr : Kd.C Kd.string w A was.length was) :
    ∃ w', (Builtin.copy_ #[33, 33] 3 #[.slice (some ⟨G, 0, none⟩) was.length was.length, .slice A was.length c]).run Try.prog w = .ok (goInt was.length) w' ∧ Blk w' G 9 (encV Value.string was) ∧ w'.heap.size = w.heap.size ∧
      (∀ B, B ≤ G → Below B w w') ∧ ∀ k, k ≠ G → w'.heap[k]? = w.heap[k]? := by
  rcases Nat.eq_zero_or_pos was.length with h0 | h0
  · obtain rfl : was = [] := List.eq_nil_of_length_eq_zero h0
    refine ⟨w, run_copy_none w 33 33 3 9 (some ⟨G, 0, none⟩) A 0 0 0 c Try.underlying33 (by kernel_rfl) rfl, hB, rfl, fun _ _ => Below.refl _ _, fun _ _ => rfl⟩
  · obtain ⟨ad, rfl, hcell⟩ := hr.2.2 h0
    have hw := run_copy_row (P := Try.prog) w 33 33 3 9 G 0 was.length was.length ad was.length c (encV Value.string (List.replicate was.length (⟨#[]⟩ : ByteArray))) 9 (was.map Value.string) Try.underlying33 (by kernel_rfl) hB (by simp)
      (fun j v hj => by
        rw [List.getElem?_map] at hj
        obtain ⟨s, hs, rfl⟩ := Option.map_eq_some_iff.1 hj
        obtain ⟨c, hc1, hc2, hc3⟩ := hcell j s hs
        have hcv : c = [.string s] := hc2
        subst hcv
        have := hc3 0 _ rfl
        rwa [show j * Kd.string.sz + 0 = j from by show j * 1 + 0 = j; omega] at this)
      (by rw [encV_size]; simp) (fun v hv => by obtain ⟨x, _, rfl⟩ := List.mem_map.1 hv; rfl)
    have hrow : ((encV Value.string (List.replicate was.length (⟨#[]⟩ : ByteArray))).toList.take 0 ++ was.map Value.string ++ (encV Value.string (List.replicate was.length (⟨#[]⟩ : ByteArray))).toList.drop (0 + (was.map Value.string).length)).toArray = encV Value.string was := by
      rw [encV_toList]
      simp [encV]
    rw [hrow, List.length_map] at hw
    have hbk : (w.setRow G (encV Value.string was)).heap[G]? = some (.cells (encV Value.string was) 9 (0, 0)) := by
      unfold Blk at hB
      simp [World.setRow, Array.getElem?_modify, hB]
    refine ⟨_, hw, hbk, by simp, fun B hBG => below_setRow (Below.refl _ _) hBG _, fun k hk => ?_⟩
    simp [World.setRow, Array.getElem?_modify, Ne.symm hk]

/-- The world behind the copy of a string into '[]byte(old)'. -/
def laidW (W : World) (old t : ByteArray) : World := (Lib.bytesWorld W 5 old).setCells W.heap.size 0 (t.data.toList.map fun x => Value.int .u8 (x.toNat : Int))

theorem bytesWorld_frozen (w : World) (s : ByteArray) (j : Nat) (hj : j < s.size) : (Lib.bytesWorld w 5 s).frozen? ⟨w.heap.size, j, none⟩ = false := by
  have hsz : s.size ≤ (Lib.bytesCells w 5 s).size := by
    simp [Lib.bytesCells]
  simp [World.frozen?, Lib.bytesWorld_at_new]
  omega

theorem laid_below (W : World) (old t : ByteArray) {B : Nat} (hB : B ≤ W.heap.size) : Below B W (laidW W old t) :=
  Go.below_setCells hB _ _ _ (bytes_below (Below.refl _ _) hB 5 old)

theorem lay_run (W : World) (old t : ByteArray) (cap : Nat) (hle : t.size ≤ old.size) :
    (Builtin.copy_ #[25, 9] 3 #[.slice (some ⟨W.heap.size, 0, none⟩) old.size cap, .string t]).run Try.prog (Lib.bytesWorld W 5 old) = .ok (goInt t.size) (laidW W old t) :=
  Go.run_copy_string _ 25 9 3 5 W.heap.size 0 old.size cap t Try.underlying25 (fun w => by obtain ⟨i0, hi, hz0, hz1, hz2'⟩ := info_parts info5; simp [Go.sizeOf, typeInfo, hi, hz1]) hle
    (fun j hj => by rw [Nat.zero_add, Lib.bytesWorld_cell W 5 old j (by omega)]; rfl) (fun j hj => by rw [Nat.zero_add]; exact bytesWorld_frozen W old j (by omega))

theorem laid_reads (W : World) (old t : ByteArray) (hle : t.size ≤ old.size) (hmax : old.size ≤ 9223372036854775807) :
    ReadsInt (laidW W old t) .u8 (some ⟨W.heap.size, 0, none⟩) old.size (bytesOf t ++ (bytesOf old).drop t.size) := by
  have hl : (t.data.toList.map fun x => Value.int .u8 (x.toNat : Int)).length = t.size := by rw [List.length_map, data_length]
  refine ⟨by rw [List.length_append, List.length_drop, bytesOf_length, bytesOf_length]; omega, hmax, fun _ => ⟨_, rfl, fun j hj => ?_⟩⟩
  rw [add_plain]
  unfold laidW
  by_cases hjt : j < t.size
  · have := World.cell?_setCells_in W.heap.size (t.data.toList.map fun x => Value.int .u8 (x.toNat : Int)) 0 (Lib.bytesWorld W 5 old) (fun i hi => by rw [Nat.zero_add, Lib.bytesWorld_cell W 5 old i (by omega)]; rfl) j (by omega)
    rw [Nat.zero_add] at this
    rw [this]
    have h1 : j < (bytesOf t).length := by rw [bytesOf_length]; exact hjt
    have h3 : j < t.data.toList.length := by rw [data_length]; exact hjt
    rw [List.getD_eq_getElem?_getD, List.getElem?_append_left h1]
    simp only [bytesOf, List.getElem_map, List.getElem?_map, List.getElem?_eq_getElem h3, Option.map_some, Option.getD_some]
  · rw [World.cell?_setCells_out _ _ _ _ _ (fun _ _ => .inr (by show 0 + _ ≤ j; rw [hl]; omega)), Lib.bytesWorld_cell W 5 old j (by omega)]
    have h1 : (bytesOf t).length ≤ j := by rw [bytesOf_length]; omega
    have h2 : j < (bytesOf old).length := by rw [bytesOf_length]; omega
    rw [List.getD_eq_getElem?_getD (l := bytesOf t ++ _), List.getElem?_append_right h1, List.getElem?_drop, bytesOf_length, show t.size + (j - t.size) = j by omega, List.getElem?_eq_getElem h2]
    have h3 : j < old.data.toList.length := by rw [data_length]; exact hj
    simp [bytesOf, List.getD_eq_getElem?_getD, List.getElem?_eq_getElem h3]

/-- A copy of a string into '[]byte(old)', and what 'string' tells of it. -/
theorem lay_ok (W old t) (ho : ByteArray.size old = 256) (ht : ByteArray.size t ≤ 256) :
    ∃ W2, (∀ cap, (Builtin.copy_ #[25, 9] 3 #[.slice (some ⟨W.heap.size, 0, none⟩) 256 cap, .string t]).run Try.prog (Lib.bytesWorld W 5 old) = .ok (goInt t.size) W2) ∧ Below W.heap.size W W2 ∧
      ∀ cap, (convert 25 9 (.slice (some ⟨W.heap.size, 0, none⟩) 256 cap)).run Try.prog W2 = .ok (.string (overlay t old)) W2 := by
  refine ⟨laidW W old t, fun cap => ?_, laid_below W old t (Nat.le_refl _), fun cap => ?_⟩
  · have := lay_run W old t cap (by omega)
    rwa [ho] at this
  · have h := laid_reads W old t (by omega) (by omega)
    rw [ho] at h
    exact string_of_reads Try.underlying25 Try.underlying5 Try.underlying9 h

end Go.Proofs.Ytknibnbepmdapaa
