/-
fate.After: what it computes; the laws for its copies; a range over an iterator of which one value is taken.
-/
import Derived.Laws.IdiomCopy
import Derived.Laws.CopyOwn
import Derived.Lib.LazyBuf
import Derived.Test.YtknibnbepmdapaaRange
import Derived.Test.YtknibnbepmdapaaFe
import Derived.Test.YtknibnbepmdapaaPFatex0
namespace Go.Proofs.Ytknibnbepmdapaa
open Go.RowKit Go.Shelf Go.Proofs.YtknibnbepmdapaaW.PrintWords Go.Proofs.Ytknibnbepmdapaa.PFate

theorem wpListIn_copy_run {F : Fence} {n : Nat} {P : Program} (w : World) {ops : Array Oper} {rest : List Oper} {o : Oper} {a : Act} {Q : Exit → Act → World → Prop} (hgd : o.guard = none) (d s : Operand) (t t' : TypeId)
    (ho : o.op = .call { callee := .builtin .copy, args := #[d, s], argTypes := #[t, t'] }) (v u : Value) (hd : a.eval d = v) (hs : a.eval s = u) {v' : Value} {w' : World}
    (hr : (Builtin.copy_ #[t, t'] o.type #[v, u]).run P w = .ok v' w') (h : wpListIn F n P ops Q rest (a.put o.dst v') w') : wpListIn F n P ops Q (o :: rest) a w := by
  refine wpListIn_plain hgd fun K hK' => ?_
  unfold Oper.wpIn
  refine ⟨?_, ?_⟩
  · simp [Oper.about, ho, resolve, Target.leads, Sem.run_pure]
  · rw [Oper.semAt_plain F _ _ (by rw [ho]; intro c hc'; cases hc')]
    simp [execOp, ho, resolve, invoke, builtin, hd, hs, hr, Result.andThen]
    exact hK' _ _ h

section
variable {F : Fence} {n : Nat} {P : Program}
/-- The frame in which the body of such a loop runs. -/
def frame1 (tmps : Array Value) (p0 p1 d1 : Nat) (v0 v1 : Value) : Array Value :=
  ((tmps.setIfInBounds p0 v0).setIfInBounds p1 v1).setIfInBounds d1 v1

theorem wpIn_range1 {α : Type} {g : Operand} {p0 p1 d1 i1 ty1 : Nat} {pos1 : String} {body : Code} {Q : Exit → Act → World → Prop} {a : Act} {w : World}
    (hro : F.round = none) (h1 : 1 ≤ n) {gf : Nat} {lb : Array Value} (hg : a.eval g = .func (.func gf) #[] lb) (hFg : F.fn gf) (eg : ∀ args w, (callFunc gf args).run P w = .ok (.enter gf args) w)
    (hp : p1 < a.tmps.size)
    {e0 e1 : α → Value} {Kp : World → World → Prop} {S Sp : List α → Prop} {N : Nat} {w0 : World} (hseq : SeqStopsK F (n - 1) P gf lb (fun x => #[e0 x, e1 x]) Kp S Sp N w0)
    (hKt : ∀ {A B C : World}, Kp A B → Kp B C → Kp A C) (hKb : ∀ (W : World) (l : Nat) (o o' : Obj), w.heap.size ≤ l → W.heap[l]? = some o → o.isCells = false → o.isWalk = false → Kp W (W.putObj l o')) (hb0 : Below w0.heap.size w0 w)
    (I : List α → World → Prop) (Ix : Code → List α → World → Prop) (hI : OwnFrom w.heap.size I) (hIx : ∀ c, OwnFrom w.heap.size (Ix c)) (h0 : I [] w)
    (hbody : ∀ (l : Nat) (pre : List α) (x : α) (W : World), I pre W → pre.length < N → body.wpIn (F.inRound l) (n - 1 - 1) P (ownPostK Kp I Ix (pre ++ [x]) W) { tmps := frame1 a.tmps p0 p1 d1 (e0 x) (e1 x), defers := [] } W)
    (hdone : ∀ (D : Nat) (xs : List α) (W : World), w.heap.size ≤ D → S xs → I xs W → W.heap[D]? = some (.deferred (some [])) → Q .normal { a with defers := { target := .collected D, args := #[] } :: a.defers } W)
    (hstop : ∀ (D : Nat) (c : Code) (pre : List α) (W : World), w.heap.size ≤ D → Sp pre → Ix c pre W → W.heap[D]? = some (.deferred (some [])) → c.wpIn F n P Q { a with defers := { target := .collected D, args := #[] } :: a.defers } W) :
    (Code.rangeFunc g #[p0, p1]
      (.region i1 #[{ dst := some d1, op := .assign (.tmp p1), type := ty1, pos := pos1, after := #[], guard := none }] false) body).wpIn F n P Q a w := by
  refine wpIn_rangeFunc_ownF hro h1 hg hFg eg hseq hKt hKb hb0 (fun _ => rfl) I Ix hI hIx h0
    (fun x => { tmps := frame1 a.tmps p0 p1 d1 (e0 x) (e1 x), defers := [] }) ?_ hbody hdone hstop
  intro l x W K hK
  have hz : (Array.zip #[p0, p1] #[e0 x, e1 x]).foldl (fun t (p, v) => t.setIfInBounds p v) a.tmps = (a.tmps.setIfInBounds p0 (e0 x)).setIfInBounds p1 (e1 x) := by simp
  rw [hz]
  refine wpIn_assign1 ?_
  have hb : ((a.tmps.setIfInBounds p0 (e0 x)).setIfInBounds p1 (e1 x)).getD p1 undef = e1 x := by
    rw [Array.getD_eq_getD_getElem?, Array.getElem?_setIfInBounds_self]
    simp [hp]
  simp only [Act.put, hb]
  exact hK
end

/-- The first bytes of d's, the others old's. -/
def overlay (d old : ByteArray) : ByteArray := strOfNums (bytesOf d ++ (bytesOf old).drop d.size)
theorem overlay_size (d old : ByteArray) (h : d.size ≤ old.size) : (overlay d old).size = old.size := by
  unfold overlay; rw [strOfNums_size, List.length_append, List.length_drop, bytesOf_length, bytesOf_length]; omega

def layAt (torn at_ i : Int) (data old : ByteArray) : ByteArray :=
  overlay (if i = torn then data.extract 0 (min (max at_ 0) 256).toNat else data) old

/-- What a write that came does, of all that stands. -/
def afterStep (l : List S43) (torn at_ : Int) (out : List ByteArray) (i : Nat) : List ByteArray :=
  if i < l.length ∧ 0 ≤ (rd_T43 l i).f0 ∧ (rd_T43 l i).f0 < out.length ∧ (rd_T43 l i).f1.size = 256 then
    out.set (rd_T43 l i).f0.toNat (layAt torn at_ i (rd_T43 l i).f1 (out.getD (rd_T43 l i).f0.toNat ByteArray.empty))
  else out

def afterFold {N : Nat} (l : List S43) (torn at_ : Int) (was : List ByteArray) (xs : List (Fin N × Fin N)) : List ByteArray := xs.foldl (fun o x => afterStep l torn at_ o x.2.val) was
theorem afterFold_snoc {N : Nat} (l : List S43) (torn at_ : Int) (was : List ByteArray) (xs : List (Fin N × Fin N)) (x : Fin N × Fin N) : afterFold l torn at_ was (xs ++ [x]) = afterStep l torn at_ (afterFold l torn at_ was xs) x.2.val := by simp [afterFold]
def fateAfter (was : List ByteArray) (l : List S43) (came : List Bool) (torn at_ : Int) : List ByteArray := afterFold l torn at_ was (cameL came came.length)

def All256 (l : List ByteArray) : Prop := ∀ s ∈ l, s.size = 256

theorem extract_size (d : ByteArray) (m : Nat) : (d.extract 0 m).size = min m d.size := by simp [ByteArray.size_extract]

theorem layAt_size (torn at_ i : Int) (data old : ByteArray) (hd : data.size = 256) (ho : old.size = 256) : (layAt torn at_ i data old).size = 256 := by
  unfold layAt
  rw [overlay_size, ho]
  split
  · rw [extract_size]; omega
  · omega

theorem afterStep_length (l : List S43) (torn at_ : Int) (out : List ByteArray) (i : Nat) : (afterStep l torn at_ out i).length = out.length := by
  unfold afterStep; split <;> simp

theorem afterStep_all (l : List S43) (torn at_ : Int) (out : List ByteArray) (i : Nat) (h : All256 out) : All256 (afterStep l torn at_ out i) := by
  unfold afterStep
  split
  · rename_i hc
    intro s hs
    rcases List.mem_or_eq_of_mem_set hs with hs | rfl
    · exact h s hs
    · refine layAt_size _ _ _ _ _ hc.2.2.2 (h _ ?_)
      have hlt : (rd_T43 l i).f0.toNat < out.length := by omega
      rw [List.getD_eq_getElem?_getD, List.getElem?_eq_getElem hlt, Option.getD_some]
      exact List.getElem_mem hlt
  · exact h

theorem afterFold_length {N : Nat} (l : List S43) (torn at_ : Int) : ∀ (xs : List (Fin N × Fin N)) (was : List ByteArray), (afterFold l torn at_ was xs).length = was.length
  | [], _ => rfl
  | x :: xs, was => by
    show (afterFold l torn at_ (afterStep l torn at_ was x.2.val) xs).length = _
    rw [afterFold_length l torn at_ xs, afterStep_length]

theorem afterFold_all {N : Nat} (l : List S43) (torn at_ : Int) : ∀ (xs : List (Fin N × Fin N)) (was : List ByteArray), All256 was → All256 (afterFold l torn at_ was xs)
  | [], _, h => h
  | x :: xs, was, h => afterFold_all l torn at_ xs _ (afterStep_all l torn at_ was x.2.val h)

/-- Behind the last write nothing comes any more. -/
theorem afterFold_stop (l : List S43) (torn at_ : Int) (was : List ByteArray) (came : List Bool) {k : Nat} (hk : l.length ≤ k) : ∀ d, afterFold l torn at_ was (cameL came (k + d)) = afterFold l torn at_ was (cameL came k)
  | 0 => rfl
  | d + 1 => by
    rw [← afterFold_stop l torn at_ was came hk d]
    show afterFold l torn at_ was (if h : k + d < came.length ∧ (cameL came (k + d)).length < came.length then _ else _) = _
    split
    · split
      · rw [afterFold_snoc]
        unfold afterStep
        rw [if_neg (fun h => absurd h.1 (by show ¬ k + d < l.length; omega))]
        rfl
      · rfl
    · rfl

theorem cameL_lt (l : List Bool) : ∀ k, ∀ x ∈ cameL l k, x.2.val < k
  | 0, x, h => by cases h
  | k + 1, x, h => by
    unfold cameL at h
    split at h
    · split at h
      · rcases List.mem_append.1 h with h | h
        · have := cameL_lt l k x h; omega
        · rw [List.mem_singleton] at h; subst h; simp
      · have := cameL_lt l k x h; omega
    · have := cameL_lt l k x h; omega

theorem afterFold_pre (l : List S43) (torn at_ : Int) (was : List ByteArray) (came : List Bool) {k : Nat} (hk : k ≤ came.length) {pre : List (Fin came.length × Fin came.length)} (hp : pre = cameL came k) {x : Fin came.length × Fin came.length} (hx : x ∈ pre) (hl : l.length ≤ x.2.val) :
    afterFold l torn at_ was pre = fateAfter was l came torn at_ := by
  subst hp
  have := cameL_lt came k x hx
  have h := afterFold_stop l torn at_ was came (k := k) (by omega) (came.length - k)
  rw [show k + (came.length - k) = came.length by omega] at h
  exact h.symm

/-! ### The copies -/
/-- The first copy: of a row of strings. -/
theorem copy_strings (was : List ByteArray) (A : Option Addr) (c G : Nat) (w : World) (hB : Blk w G 9 (encV Value.string (List.replicate was.length (⟨#[]⟩ : ByteArray)))) (hr : Kd.C Kd.string w A was.length was) :
    ∃ w', (Builtin.copy_ #[33, 33] 3 #[.slice (some ⟨G, 0, none⟩) was.length was.length, .slice A was.length c]).run Try.prog w = .ok (goInt was.length) w' ∧ Blk w' G 9 (encV Value.string was) ∧ w'.heap.size = w.heap.size ∧
      (∀ B, B ≤ G → Below B w w') ∧ ∀ k, k ≠ G → w'.heap[k]? = w.heap[k]? := by
  rcases Nat.eq_zero_or_pos was.length with h0 | h0
  · obtain rfl : was = [] := List.eq_nil_of_length_eq_zero h0
    refine ⟨w, run_copy_none w 33 33 3 9 (some ⟨G, 0, none⟩) A 0 0 0 c Try.underlying33 (by kernel_rfl) rfl, hB, rfl, fun _ _ => Below.refl _ _, fun _ _ => rfl⟩
  · obtain ⟨ad, rfl, hcell⟩ := hr.2.2 h0
    have hw := run_copy_row (P := Try.prog) w 33 33 3 9 G 0 was.length was.length ad was.length c (encV Value.string (List.replicate was.length (⟨#[]⟩ : ByteArray))) 9 (was.map Value.string) Try.underlying33 (by kernel_rfl) hB (by simp)
      (fun j v hj => by
        rw [List.getElem?_map] at hj
        obtain ⟨s, hs, rfl⟩ := Option.map_eq_some_iff.1 hj
        obtain ⟨c, hc1, hc2, hc3⟩ := hcell j s hs
        have hcv : c = [.string s] := hc2
        subst hcv
        have := hc3 0 _ rfl
        rwa [show j * Kd.string.sz + 0 = j from by show j * 1 + 0 = j; omega] at this)
      (by rw [encV_size]; simp) (fun v hv => by obtain ⟨x, _, rfl⟩ := List.mem_map.1 hv; rfl)
    have hrow : ((encV Value.string (List.replicate was.length (⟨#[]⟩ : ByteArray))).toList.take 0 ++ was.map Value.string ++ (encV Value.string (List.replicate was.length (⟨#[]⟩ : ByteArray))).toList.drop (0 + (was.map Value.string).length)).toArray = encV Value.string was := by
      rw [encV_toList]
      simp [encV]
    rw [hrow, List.length_map] at hw
    have hbk : (w.setRow G (encV Value.string was)).heap[G]? = some (.cells (encV Value.string was) 9 (0, 0)) := by
      unfold Blk at hB
      simp [World.setRow, Array.getElem?_modify, hB]
    refine ⟨_, hw, hbk, by simp, fun B hBG => below_setRow (Below.refl _ _) hBG _, fun k hk => ?_⟩
    simp [World.setRow, Array.getElem?_modify, Ne.symm hk]

/-- The world behind the copy of a string into '[]byte(old)'. -/
def laidW (W : World) (old t : ByteArray) : World := (Lib.bytesWorld W 5 old).setCells W.heap.size 0 (t.data.toList.map fun x => Value.int .u8 (x.toNat : Int))

theorem bytesWorld_frozen (w : World) (s : ByteArray) (j : Nat) (hj : j < s.size) : (Lib.bytesWorld w 5 s).frozen? ⟨w.heap.size, j, none⟩ = false := by
  have hsz : s.size ≤ (Lib.bytesCells w 5 s).size := by
    simp [Lib.bytesCells]
  simp [World.frozen?, Lib.bytesWorld_at_new]
  omega

theorem laid_below (W : World) (old t : ByteArray) {B : Nat} (hB : B ≤ W.heap.size) : Below B W (laidW W old t) :=
  Go.below_setCells hB _ _ _ (bytes_below (Below.refl _ _) hB 5 old)

theorem lay_run (W : World) (old t : ByteArray) (cap : Nat) (hle : t.size ≤ old.size) :
    (Builtin.copy_ #[25, 9] 3 #[.slice (some ⟨W.heap.size, 0, none⟩) old.size cap, .string t]).run Try.prog (Lib.bytesWorld W 5 old) = .ok (goInt t.size) (laidW W old t) :=
  Go.run_copy_string _ 25 9 3 5 W.heap.size 0 old.size cap t Try.underlying25 (fun w => by obtain ⟨i0, hi, hz0, hz1, hz2'⟩ := info_parts info5; simp [Go.sizeOf, typeInfo, hi, hz1]) hle
    (fun j hj => by rw [Nat.zero_add, Lib.bytesWorld_cell W 5 old j (by omega)]; rfl) (fun j hj => by rw [Nat.zero_add]; exact bytesWorld_frozen W old j (by omega))

theorem laid_reads (W : World) (old t : ByteArray) (hle : t.size ≤ old.size) (hmax : old.size ≤ 9223372036854775807) :
    ReadsInt (laidW W old t) .u8 (some ⟨W.heap.size, 0, none⟩) old.size (bytesOf t ++ (bytesOf old).drop t.size) := by
  have hl : (t.data.toList.map fun x => Value.int .u8 (x.toNat : Int)).length = t.size := by rw [List.length_map, data_length]
  refine ⟨by rw [List.length_append, List.length_drop, bytesOf_length, bytesOf_length]; omega, hmax, fun _ => ⟨_, rfl, fun j hj => ?_⟩⟩
  rw [add_plain]
  unfold laidW
  by_cases hjt : j < t.size
  · have := World.cell?_setCells_in W.heap.size (t.data.toList.map fun x => Value.int .u8 (x.toNat : Int)) 0 (Lib.bytesWorld W 5 old) (fun i hi => by rw [Nat.zero_add, Lib.bytesWorld_cell W 5 old i (by omega)]; rfl) j (by omega)
    rw [Nat.zero_add] at this
    rw [this]
    have h1 : j < (bytesOf t).length := by rw [bytesOf_length]; exact hjt
    have h3 : j < t.data.toList.length := by rw [data_length]; exact hjt
    rw [List.getD_eq_getElem?_getD, List.getElem?_append_left h1]
    simp only [bytesOf, List.getElem_map, List.getElem?_map, List.getElem?_eq_getElem h3, Option.map_some, Option.getD_some]
  · rw [World.cell?_setCells_out _ _ _ _ _ (fun _ _ => .inr (by show 0 + _ ≤ j; rw [hl]; omega)), Lib.bytesWorld_cell W 5 old j (by omega)]
    have h1 : (bytesOf t).length ≤ j := by rw [bytesOf_length]; omega
    have h2 : j < (bytesOf old).length := by rw [bytesOf_length]; omega
    rw [List.getD_eq_getElem?_getD (l := bytesOf t ++ _), List.getElem?_append_right h1, List.getElem?_drop, bytesOf_length, show t.size + (j - t.size) = j by omega, List.getElem?_eq_getElem h2]
    have h3 : j < old.data.toList.length := by rw [data_length]; exact hj
    simp [bytesOf, List.getD_eq_getElem?_getD, List.getElem?_eq_getElem h3]

/-- A copy of a string into '[]byte(old)', and what 'string' tells of it. -/
theorem lay_ok (W old t) (ho : ByteArray.size old = 256) (ht : ByteArray.size t ≤ 256) :
    ∃ W2, (∀ cap, (Builtin.copy_ #[25, 9] 3 #[.slice (some ⟨W.heap.size, 0, none⟩) 256 cap, .string t]).run Try.prog (Lib.bytesWorld W 5 old) = .ok (goInt t.size) W2) ∧ Below W.heap.size W W2 ∧
      ∀ cap, (convert 25 9 (.slice (some ⟨W.heap.size, 0, none⟩) 256 cap)).run Try.prog W2 = .ok (.string (overlay t old)) W2 := by
  refine ⟨laidW W old t, fun cap => ?_, laid_below W old t (Nat.le_refl _), fun cap => ?_⟩
  · have := lay_run W old t cap (by omega)
    rwa [ho] at this
  · have h := laid_reads W old t (by omega) (by omega)
    rw [ho] at h
    exact string_of_reads Try.underlying25 Try.underlying5 Try.underlying9 h

end Go.Proofs.Ytknibnbepmdapaa

/-
fate.After: its contract.
-/
namespace Go.Proofs.Ytknibnbepmdapaa
open Go.RowKit Go.Shelf Go.Proofs.YtknibnbepmdapaaW.PrintWords Go.Proofs.Ytknibnbepmdapaa.PFate
attribute [local go_sem] Oper.semAt_some

theorem make_strings (n : Nat) (h : n ≤ 17592186044416) (w : World) :
    (Instr.makeSlice 33 (.int .i64 (n : Int)) (.int .i64 (n : Int))).run Try.prog w = .ok (.slice (some ⟨w.heap.size, 0, none⟩) n n) (w.alloc (.cells (encV Value.string (List.replicate n (⟨#[]⟩ : ByteArray))) 9)) := by
  rw [run_make_row' (P := Try.prog) 33 9 (.string ⟨#[]⟩) 16 Try.underlying33 (by kernel_rfl) rfl .i64 .i64 n (by omega) (by omega) w, madeCells_one, encV_replicate]

/-- One of these lies at or behind m. -/
def Seen {N : Nat} (m : Nat) (pre : List (Fin N × Fin N)) : Prop := ∃ x ∈ pre, m ≤ x.2.val

def AfterPost (w : World) (r : List ByteArray) : Ending → World → Prop := fun e w' =>
  ∃ v0 : Value, e = .returned v0 ∧ Kd.R Kd.string 9 w' w.heap.size (fun _ => True) v0 r ∧ Below w.heap.size w w'

set_option maxRecDepth 100000 in
set_option maxHeartbeats 1600000 in
theorem after_in (A0 : Option Addr) (c0 : Nat) (was : List ByteArray) (A1 : Option Addr) (c1 : Nat) (l : List S43) (A2 : Option Addr) (c2 : Nat) (came : List Bool) (torn at_ : Int) (w : World)
    (hr0 : Kd.C Kd.string w A0 was.length was) (hr1 : Kd.C k43 w A1 l.length l) (hr2 : Kd.C Kd.bool w A2 came.length came)
    (hall : All256 was) (hm : was.length ≤ 17592186044416) :
    CallsIn Fence.wide 9 Try.prog 19 #[.slice A0 was.length c0, .slice A1 l.length c1, .agg #[.slice A2 came.length c2, .int .i64 torn, .int .i64 at_]] w (AfterPost w (fateAfter was l came torn at_)) := by
  have hF : ∀ f, Fence.wide.fn f := fun _ => trivial
  refine callsIn_of_wp_marks Try.func19 rfl (hF _) ?_ rfl
  simp only [Try.ntmps19, List.size_toArray, List.length_cons, List.length_nil, Nat.reduceAdd, Nat.reduceSub, Array.replicate_succ, Array.replicate_zero, List.push_toArray, List.append_toArray, List.nil_append, List.cons_append]
  have hm0 := Kd.C_max hr0
  have hm1 := Kd.C_max hr1
  obtain ⟨n, hn⟩ : ∃ n, was.length = n := ⟨_, rfl⟩
  have hmk := fun w => make_strings n (by omega) w
  obtain ⟨w1, hw1⟩ : ∃ w1, (((w.alloc (.cells #[.slice A1 l.length c1] 35)).alloc (.cells #[.slice A2 came.length c2, .int .i64 torn, .int .i64 at_] 24)).alloc (.cells (encV Value.string (List.replicate n (⟨#[]⟩ : ByteArray))) 9)).alloc (.cells #[.slice (some ⟨w.heap.size + 1 + 1, 0, none⟩) n n] 33) = w1 := ⟨_, rfl⟩
  have hz1 : w1.heap.size = w.heap.size + 4 := by rw [← hw1]; simp
  have b0 : Blk w1 w.heap.size 35 #[.slice A1 l.length c1] := by rw [← hw1]; exact (((Blk.new w 35 _).alloc _).alloc _).alloc _
  have b1 : Blk w1 (w.heap.size + 1) 24 #[.slice A2 came.length c2, .int .i64 torn, .int .i64 at_] := by
    rw [← hw1]; have := ((Blk.new (w.alloc (.cells #[.slice A1 l.length c1] 35)) 24 #[.slice A2 came.length c2, .int .i64 torn, .int .i64 at_]).alloc (.cells (encV Value.string (List.replicate n (⟨#[]⟩ : ByteArray))) 9)).alloc (.cells #[.slice (some ⟨w.heap.size + 1 + 1, 0, none⟩) n n] 33); simpa using this
  have b2 : Blk w1 (w.heap.size + 1 + 1) 9 (encV Value.string (List.replicate n (⟨#[]⟩ : ByteArray))) := by
    rw [← hw1]; have := (Blk.new ((w.alloc (.cells #[.slice A1 l.length c1] 35)).alloc (.cells #[.slice A2 came.length c2, .int .i64 torn, .int .i64 at_] 24)) 9 (encV Value.string (List.replicate n (⟨#[]⟩ : ByteArray)))).alloc (.cells #[.slice (some ⟨w.heap.size + 1 + 1, 0, none⟩) n n] 33); simpa using this
  have b3 : Blk w1 (w.heap.size + 1 + 1 + 1) 33 #[.slice (some ⟨w.heap.size + 1 + 1, 0, none⟩) n n] := by
    rw [← hw1]; have := Blk.new (((w.alloc (.cells #[.slice A1 l.length c1] 35)).alloc (.cells #[.slice A2 came.length c2, .int .i64 torn, .int .i64 at_] 24)).alloc (.cells (encV Value.string (List.replicate n (⟨#[]⟩ : ByteArray))) 9)) 33 #[.slice (some ⟨w.heap.size + 1 + 1, 0, none⟩) n n]; simpa using this
  have hb1 : Below w.heap.size w w1 := by rw [← hw1]; exact below_alloc (below_alloc (below_alloc (below_alloc (Below.refl _ _) _) _) _) _
  obtain ⟨w2, hcopy, b2', hz2, hbel, hkeep⟩ := copy_strings was A0 c0 (w.heap.size + 1 + 1) w1 (by rw [hn]; exact b2) (Kd.C_below hr0 hb1)
  rw [hn] at hcopy
  subst hw1
  have hb2 := hb1.trans (hbel w.heap.size (by omega))
  have c0' : Blk w2 w.heap.size 35 #[.slice A1 l.length c1] := (hkeep _ (by omega)).trans b0
  have c1' : Blk w2 (w.heap.size + 1) 24 #[.slice A2 came.length c2, .int .i64 torn, .int .i64 at_] := (hkeep _ (by omega)).trans b1
  have c3' : Blk w2 (w.heap.size + 1 + 1 + 1) 33 #[.slice (some ⟨w.heap.size + 1 + 1, 0, none⟩) n n] := (hkeep _ (by omega)).trans b3
  clear b0 b1 b2 b3
  have hz2' : w2.heap.size = w.heap.size + 1 + 1 + 1 + 1 := by rw [hz2, hz1]
  have g1 := c1'.cell 0
  have g2 := c1'.cell 1
  have g3 := c1'.cell 2
  rw [hn]
  gi_wp2_with (refine wpListIn_copy_run _ rfl _ _ _ _ rfl _ _ rfl rfl hcopy ?_)
  refine (came_in Fence.wide hF rfl 8 A2 came.length c2 torn at_ _).mono ?_
  rintro e w3 ⟨rfl, rfl⟩
  clear hcopy hmk g1 g2 g3
  gi_wp2_with fail
  obtain ⟨W3, hW3⟩ : ∃ W3, w2.alloc (.cells #[.slice A2 came.length c2, .int .i64 torn, .int .i64 at_] 24) = W3 := ⟨_, rfl⟩
  rw [hW3]
  have hsz : W3.heap.size = w.heap.size + 5 := by rw [← hW3]; simp; omega
  have k0 : Blk W3 w.heap.size 35 #[.slice A1 l.length c1] := by rw [← hW3]; exact c0'.alloc _
  have k1 : Blk W3 (w.heap.size + 1) 24 #[.slice A2 came.length c2, .int .i64 torn, .int .i64 at_] := by rw [← hW3]; exact c1'.alloc _
  have k2 : Blk W3 (w.heap.size + 1 + 1) 9 (encV Value.string (afterFold l torn at_ was ([] : List (Fin came.length × Fin came.length)))) := by rw [← hW3]; exact b2'.alloc _
  have k3 : Blk W3 (w.heap.size + 1 + 1 + 1) 33 #[.slice (some ⟨w.heap.size + 1 + 1, 0, none⟩) n n] := by rw [← hW3]; exact c3'.alloc _
  have k4 : Blk W3 (w.heap.size + 1 + 1 + 1 + 1) 24 #[.slice A2 came.length c2, .int .i64 torn, .int .i64 at_] := by rw [← hW3, ← hz2']; exact Blk.new w2 24 _
  have hb3 : Below w.heap.size w W3 := by rw [← hW3]; exact below_alloc hb2 _
  have hAb : ∀ ad, A2 = some ad → 0 < came.length → ad.block < w.heap.size := fun ad e h0 => by
    obtain ⟨ad', e', hlt, _⟩ := bool_at hr2 h0
    rw [e] at e'; cases e'; exact hlt
  clear hW3 c0' c1' b2' c3' hb2 hbel hkeep hz2' hz2 hz1 hb1
  refine wpIn_range1 (F := Fence.wide) rfl (by omega) (gf := 58) (lb := #[.pointer (some ⟨w.heap.size + 1 + 1 + 1 + 1, 0, none⟩)]) rfl (hF _) (enters_of Try.func58 (by kernel_rfl) rfl) (by simp)
    (came_stops Fence.wide hF rfl 8 (by omega) (w.heap.size + 1 + 1 + 1 + 1) w.heap.size A2 c2 came W3 (by omega) (by omega) hAb (k4.cell 0) (Kd.C_below hr2 hb3))
    belowK_t (belowK_b (by omega)) (Below.refl _ _)
    (fun pre W => (Blk W w.heap.size 35 #[.slice A1 l.length c1] ∧ Blk W (w.heap.size + 1) 24 #[.slice A2 came.length c2, .int .i64 torn, .int .i64 at_] ∧ Blk W (w.heap.size + 1 + 1) 9 (encV Value.string (afterFold l torn at_ was pre)) ∧ Blk W (w.heap.size + 1 + 1 + 1) 33 #[.slice (some ⟨w.heap.size + 1 + 1, 0, none⟩) n n]) ∧ Below w.heap.size w W)
    (fun c pre W => c = .exit 0 ∧ Seen l.length pre ∧ (Blk W (w.heap.size + 1 + 1) 9 (encV Value.string (afterFold l torn at_ was pre)) ∧ Blk W (w.heap.size + 1 + 1 + 1) 33 #[.slice (some ⟨w.heap.size + 1 + 1, 0, none⟩) n n]) ∧ Below w.heap.size w W)
    (OwnFrom.and (fun s W W' row hs hg hr => ⟨hs.1.own hg hr, hs.2.1.own hg hr, hs.2.2.1.own hg hr, hs.2.2.2.own hg hr⟩) (ownFrom_below (Nat.le_refl _) (by omega)))
    ?ix
    ⟨⟨k0, k1, k2, k3⟩, hb3⟩ ?body ?done ?stop
  case ix => exact fun c s W W' row hs hg hr => ⟨hs.1, hs.2.1, ⟨hs.2.2.1.1.own hg hr, hs.2.2.1.2.own hg hr⟩, ownFrom_below (Nat.le_refl _) (by omega) s W W' row hs.2.2.2 hg hr⟩
  case stop => 
    rintro D c pre W hD ⟨k, hk, hpre⟩ ⟨rfl, ⟨x, hx, hxl⟩, ⟨j2, j3⟩, hbW⟩ hK
    rw [afterFold_pre l torn at_ was came hk hpre hx hxl] at j2
    have f2 : W.cell? ⟨w.heap.size + 1 + 1 + 1, 0, none⟩ = some (.slice (some ⟨w.heap.size + 1 + 1, 0, none⟩) n n) := j3.cell 0
    have hfl := afterFold_length l torn at_ (cameL came came.length) was
    change (fateAfter was l came torn at_).length = _ at hfl
    generalize fateAfter was l came torn at_ = fin at *
    gi_wp2
    refine ⟨by simp, .inl ⟨_, _, rfl, run_takeDeferred hK, ?_⟩⟩
    refine ⟨_, results_tmp rfl _ _ _, ?_⟩
    have hown := (j2.putObj (.deferred none) hK rfl).owns (base := w.heap.size) (by omega) (by rw [hfl]; unfold maxLen; omega)
    rw [hfl, hn] at hown
    exact ⟨_, rfl, Kd.R_of_own (by rw [hfl, hn]; exact hown) (fun _ _ => trivial), hbW.trans (belowK_b (w := w) (Nat.le_refl _) W D _ _ (by omega) hK rfl rfl)⟩
  case done =>
    rintro D ys W hD rfl ⟨⟨j0, j1, j2, j3⟩, hbW⟩ hK
    change Blk W (w.heap.size + 1 + 1) 9 (encV Value.string (fateAfter was l came torn at_)) at j2
    have f2 : W.cell? ⟨w.heap.size + 1 + 1 + 1, 0, none⟩ = some (.slice (some ⟨w.heap.size + 1 + 1, 0, none⟩) n n) := j3.cell 0
    have hfl := afterFold_length l torn at_ (cameL came came.length) was
    change (fateAfter was l came torn at_).length = _ at hfl
    generalize fateAfter was l came torn at_ = fin at *
    gi_wp2
    refine ⟨by simp, .inl ⟨_, _, rfl, run_takeDeferred hK, ?_⟩⟩
    refine ⟨_, results_tmp rfl _ _ _, ?_⟩
    have hown := (j2.putObj (.deferred none) hK rfl).owns (base := w.heap.size) (by omega) (by rw [hfl]; unfold maxLen; omega)
    rw [hfl, hn] at hown
    exact ⟨_, rfl, Kd.R_of_own (by rw [hfl, hn]; exact hown) (fun _ _ => trivial), hbW.trans (belowK_b (w := w) (Nat.le_refl _) W D _ _ (by omega) hK rfl rfl)⟩
  case body =>
    rintro lp pre ⟨⟨k, hk⟩, ⟨i, hi⟩⟩ W ⟨⟨j0, j1, j2, j3⟩, hbW⟩ hlen
    simp only [frame1, List.setIfInBounds_toArray, List.set_cons_zero, List.set_cons_succ]
    have hfl := afterFold_length l torn at_ pre was
    have hfa := afterFold_all l torn at_ pre was hall
    have hsn := Lib.hid (afterFold_snoc l torn at_ was pre (⟨k, hk⟩, ⟨i, hi⟩))
    generalize afterFold l torn at_ was pre = out at *
    have f0 : W.cell? ⟨w.heap.size, 0, none⟩ = some (.slice A1 l.length c1) := j0.cell 0
    by_cases hil : l.length ≤ i
    · have hil' : (l.length : Int) ≤ i := by omega
      have hst : afterStep l torn at_ out i = out := by unfold afterStep; rw [if_neg (fun h => absurd h.1 (by omega))]
      gi_wp2
      refine ⟨KeepsOthers.refl _, rfl, ⟨((⟨k, hk⟩, ⟨i, hi⟩) : Fin came.length × Fin came.length), by simp, hil⟩, ⟨?_, j3⟩, hbW⟩
      rw [hsn.out, hst]
      exact j2
    · have hilt : (i : Int) < l.length := by omega
      obtain ⟨ad, e1, hcA, hcB⟩ := at_T43 (Kd.C_below hr1 hbW) (i : Int) (by omega) (by omega)
      rw [Int.toNat_natCast] at hcA hcB
      subst e1
      have hst : Hid (afterStep l torn at_ out i = if i < l.length ∧ 0 ≤ (rd_T43 l i).f0 ∧ (rd_T43 l i).f0 < out.length ∧ (rd_T43 l i).f1.size = 256 then
        out.set (rd_T43 l i).f0.toNat (layAt torn at_ i (rd_T43 l i).f1 (out.getD (rd_T43 l i).f0.toNat ByteArray.empty)) else out) := Lib.hid rfl
      generalize rd_T43 l (i : Int) = x at hcA hcB hst
      obtain ⟨sec, data⟩ := x
      dsimp only at hcA hcB
      have hlt := j3.lt
      have j43 := Blk.new W 43 #[.int .i64 sec, .string data]
      have f3 : (W.alloc (.cells #[.int .i64 sec, .string data] 43)).cell? ⟨w.heap.size + 1 + 1 + 1, 0, none⟩ = some (.slice (some ⟨w.heap.size + 1 + 1, 0, none⟩) n n) := (j3.alloc _).cell 0
      have fin : afterStep l torn at_ out i = out → KeepsOthers W (W.alloc (.cells #[.int .i64 sec, .string data] 43)) ∧ Below w.heap.size W (W.alloc (.cells #[.int .i64 sec, .string data] 43)) ∧
          ((Blk (W.alloc (.cells #[.int .i64 sec, .string data] 43)) w.heap.size 35 #[.slice (some ad) l.length c1] ∧ Blk (W.alloc (.cells #[.int .i64 sec, .string data] 43)) (w.heap.size + 1) 24 #[.slice A2 came.length c2, .int .i64 torn, .int .i64 at_] ∧
            Blk (W.alloc (.cells #[.int .i64 sec, .string data] 43)) (w.heap.size + 1 + 1) 9 (encV Value.string (afterFold l torn at_ was (pre ++ [((⟨k, hk⟩, ⟨i, hi⟩) : Fin came.length × Fin came.length)]))) ∧ Blk (W.alloc (.cells #[.int .i64 sec, .string data] 43)) (w.heap.size + 1 + 1 + 1) 33 #[.slice (some ⟨w.heap.size + 1 + 1, 0, none⟩) n n]) ∧ Below w.heap.size w (W.alloc (.cells #[.int .i64 sec, .string data] 43))) := by
        intro hs
        refine ⟨keepsOthers_of_below ((Below.refl _ W).alloc (Nat.le_refl _) _), (Below.refl _ W).alloc hbW.size _, ⟨j0.alloc _, j1.alloc _, ?_, j3.alloc _⟩, below_alloc hbW _⟩
        rw [hsn.out, hs]
        exact j2.alloc _
      by_cases hs0 : sec < 0
      · have fin := fin (by rw [hst.out, if_neg]; intro h; have := h.2.1; simp only at this; omega)
        have fin := Lib.hid fin
        gi_wp2
        exact fin.out
      · by_cases hs1 : (n : Int) ≤ sec
        · have fin := fin (by rw [hst.out, if_neg]; intro h; have := h.2.2.1; simp only at this; omega)
          have fin := Lib.hid fin
          gi_wp2
          exact fin.out
        · by_cases hs2 : data.size = 256
          · obtain ⟨j, rfl⟩ := Int.eq_ofNat_of_zero_le (show 0 ≤ sec by omega)
            have hjn : j < n := by omega
            obtain ⟨old, hold⟩ : ∃ old, out.getD j ByteArray.empty = old := ⟨_, rfl⟩
            have ho : old.size = 256 := by
              rw [← hold, List.getD_eq_getElem?_getD, List.getElem?_eq_getElem (by omega), Option.getD_some]
              exact hfa _ (List.getElem_mem _)
            have hres : Hid (afterStep l torn at_ out i = out.set j (layAt torn at_ i data old)) := Lib.hid (by
              rw [hst.out, if_pos ⟨by omega, by show (0 : Int) ≤ (j : Int); omega, by show (j : Int) < _; omega, hs2⟩]
              show out.set ((j : Int)).toNat (layAt torn at_ i data (out.getD ((j : Int)).toNat ByteArray.empty)) = _
              rw [Int.toNat_natCast, hold])
            clear fin hst
            have c2' : Blk (W.alloc (.cells #[.int .i64 (j : Int), .string data] 43)) (w.heap.size + 1 + 1) 9 (encV Value.string out) := j2.alloc _
            have f4 : (W.alloc (.cells #[.int .i64 (j : Int), .string data] 43)).cell? ⟨w.heap.size + 1 + 1, j, none⟩ = some (.string old) := by
              rw [← hold]; exact (c2'.cell j).trans (encV_getD _ ByteArray.empty (by omega))
            have kb := fun W => print_bytes (P := Try.prog) 9 25 5 Try.underlying9 Try.underlying25 Try.underlying5 old W
            have hlt1 := hlt
            have hjn' : (j : Int) < n := by omega
            have hs2' : ((data.size : Int) == 256) = true := by rw [beq_iff_eq]; omega
            have w4 : Below W.heap.size W (Lib.bytesWorld (W.alloc (.cells #[.int .i64 (j : Int), .string data] 43)) 5 old) := bytes_below ((Below.refl _ W).alloc (Nat.le_refl _) _) (by simp) 5 old
            have w5 : Below (W.alloc (.cells #[.int .i64 (j : Int), .string data] 43)).heap.size (W.alloc (.cells #[.int .i64 (j : Int), .string data] 43)) (Lib.bytesWorld (W.alloc (.cells #[.int .i64 (j : Int), .string data] 43)) 5 old) := bytes_below (Below.refl _ _) (Nat.le_refl _) 5 old
            have p1 := (j1.below w4).cell 1
            have p2 := (j1.below w4).cell 2
            have p3 := (j43.below w5).cell 1
            have p3 : (Lib.bytesWorld (W.alloc (.cells #[.int .i64 (j : Int), .string data] 43)) 5 old).cell? ⟨W.heap.size, 1, none⟩ = some (.string data) := p3
            have p1 : (Lib.bytesWorld (W.alloc (.cells #[.int .i64 (j : Int), .string data] 43)) 5 old).cell? ⟨w.heap.size + 1, 1, none⟩ = some (.int .i64 torn) := p1
            have p2 : (Lib.bytesWorld (W.alloc (.cells #[.int .i64 (j : Int), .string data] 43)) 5 old).cell? ⟨w.heap.size + 1, 2, none⟩ = some (.int .i64 at_) := p2
            have fin : ∀ t W2, Below (W.alloc (.cells #[.int .i64 (j : Int), .string data] 43)).heap.size (W.alloc (.cells #[.int .i64 (j : Int), .string data] 43)) W2 → layAt torn at_ i data old = overlay t old →
              (Blk W2 (w.heap.size + 1 + 1 + 1) 33 #[.slice (some ⟨w.heap.size + 1 + 1, 0, none⟩) n n] ∧ W2.cell? ⟨W.heap.size, 0, none⟩ = some (.int .i64 (j : Int)) ∧ W2.cell? ⟨w.heap.size + 1 + 1, j, none⟩ = some (.string old) ∧ W2.frozen? ⟨w.heap.size + 1 + 1, j, none⟩ = false) ∧
              Hid (KeepsOthers W (W2.setCell ⟨w.heap.size + 1 + 1, j, none⟩ (.string (overlay t old))) ∧ Below w.heap.size W (W2.setCell ⟨w.heap.size + 1 + 1, j, none⟩ (.string (overlay t old))) ∧
                ((Blk (W2.setCell ⟨w.heap.size + 1 + 1, j, none⟩ (.string (overlay t old))) w.heap.size 35 #[.slice (some ad) l.length c1] ∧ Blk (W2.setCell ⟨w.heap.size + 1 + 1, j, none⟩ (.string (overlay t old))) (w.heap.size + 1) 24 #[.slice A2 came.length c2, .int .i64 torn, .int .i64 at_] ∧
                  Blk (W2.setCell ⟨w.heap.size + 1 + 1, j, none⟩ (.string (overlay t old))) (w.heap.size + 1 + 1) 9 (encV Value.string (afterFold l torn at_ was (pre ++ [((⟨k, hk⟩, ⟨i, hi⟩) : Fin came.length × Fin came.length)]))) ∧ Blk (W2.setCell ⟨w.heap.size + 1 + 1, j, none⟩ (.string (overlay t old))) (w.heap.size + 1 + 1 + 1) 33 #[.slice (some ⟨w.heap.size + 1 + 1, 0, none⟩) n n]) ∧ Below w.heap.size w (W2.setCell ⟨w.heap.size + 1 + 1, j, none⟩ (.string (overlay t old))))) := by
              intro t W2 hb hlay
              have hbW2 : Below W.heap.size W W2 := ((Below.refl _ W).alloc (Nat.le_refl _) _).trans (hb.mono (by simp))
              refine ⟨⟨j3.below hbW2, (j43.below hb).cell 0, ?_, (j2.below hbW2).frozen _⟩, Lib.hid ⟨(keepsOthers_of_below hbW2).trans (KeepsOthers.setCell _ _ _), (hbW2.mono hbW.size).setCell (p := ⟨w.heap.size + 1 + 1, j, none⟩) (by show _ ≤ w.heap.size + 1 + 1; omega) _, ⟨(j0.below hbW2).stay (by omega) _, (j1.below hbW2).stay (by omega) _, ?_, (j3.below hbW2).stay (by omega) _⟩,
                (hbW.trans (hbW2.mono hbW.size)).setCell (p := ⟨w.heap.size + 1 + 1, j, none⟩) (by show _ ≤ w.heap.size + 1 + 1; omega) _⟩⟩
              · rw [← hold]; exact ((j2.below hbW2).cell j).trans (encV_getD _ ByteArray.empty (by omega))
              · rw [hsn.out, hres.out, hlay, ← encV_set]
                exact (j2.below hbW2).set j _
            by_cases ht : (i : Int) = torn
            · have ht' : ((i : Int) == torn) = true := by rw [beq_iff_eq]; exact ht
              rcases (show at_ < 0 ∨ (∃ m : Nat, at_ = m ∧ m ≤ 256) ∨ 256 < at_ from by
                rcases Int.lt_or_le at_ 0 with h | h
                · exact .inl h
                · by_cases h' : at_ ≤ 256
                  · exact .inr (.inl ⟨at_.toNat, by omega, by omega⟩)
                  · exact .inr (.inr (by omega))) with ha | ⟨m, hm', ha⟩ | ha
              · obtain ⟨W2, hcopy, hb, hstr⟩ := lay_ok (W.alloc (.cells #[.int .i64 (j : Int), .string data] 43)) old ByteArray.empty ho (by show 0 ≤ 256; omega)
                simp only [World.size_alloc] at hcopy hstr
                obtain ⟨⟨q1, q2, q3, q4⟩, hfin⟩ := fin ByteArray.empty W2 hb (by unfold layAt; rw [if_pos ht, show (min (max at_ 0) 256).toNat = 0 by omega]; congr 1; simp)
                have q1 := q1.cell 0
                have q1 : W2.cell? ⟨w.heap.size + 1 + 1 + 1, 0, none⟩ = some (.slice (some ⟨w.heap.size + 1 + 1, 0, none⟩) n n) := q1
                clear hres fin ht hfa
                gi_wp2
                exact hfin.out
              · subst hm'
                have ha' : (m : Int) ≤ 256 := by omega
                have ha0 : (0 : Int) ≤ (m : Int) := by omega
                have hmd : (m : Int) ≤ (data.size : Int) := by omega
                obtain ⟨W2, hcopy, hb, hstr⟩ := lay_ok (W.alloc (.cells #[.int .i64 (j : Int), .string data] 43)) old (data.extract 0 m) ho (by rw [extract_size]; omega)
                simp only [World.size_alloc] at hcopy hstr
                obtain ⟨⟨q1, q2, q3, q4⟩, hfin⟩ := fin (data.extract 0 m) W2 hb (by unfold layAt; rw [if_pos ht, show (min (max (m : Int) 0) 256).toNat = m by omega])
                have q1 := q1.cell 0
                have q1 : W2.cell? ⟨w.heap.size + 1 + 1 + 1, 0, none⟩ = some (.slice (some ⟨w.heap.size + 1 + 1, 0, none⟩) n n) := q1
                clear hres fin ht hfa
                gi_wp2
                exact hfin.out
              · obtain ⟨W2, hcopy, hb, hstr⟩ := lay_ok (W.alloc (.cells #[.int .i64 (j : Int), .string data] 43)) old (data.extract 0 256) ho (by rw [extract_size]; omega)
                simp only [World.size_alloc] at hcopy hstr
                obtain ⟨⟨q1, q2, q3, q4⟩, hfin⟩ := fin (data.extract 0 256) W2 hb (by unfold layAt; rw [if_pos ht, show (min (max at_ 0) 256).toNat = 256 by omega])
                have q1 := q1.cell 0
                have q1 : W2.cell? ⟨w.heap.size + 1 + 1 + 1, 0, none⟩ = some (.slice (some ⟨w.heap.size + 1 + 1, 0, none⟩) n n) := q1
                clear hres fin ht hfa
                gi_wp2
                exact hfin.out
            · have ht' : ((i : Int) == torn) = false := by rw [beq_eq_false_iff_ne]; exact ht
              obtain ⟨W2, hcopy, hb, hstr⟩ := lay_ok (W.alloc (.cells #[.int .i64 (j : Int), .string data] 43)) old data ho (by omega)
              simp only [World.size_alloc] at hcopy hstr
              obtain ⟨⟨q1, q2, q3, q4⟩, hfin⟩ := fin data W2 hb (by unfold layAt; rw [if_neg ht])
              have q1 := q1.cell 0
              have q1 : W2.cell? ⟨w.heap.size + 1 + 1 + 1, 0, none⟩ = some (.slice (some ⟨w.heap.size + 1 + 1, 0, none⟩) n n) := q1
              clear hres fin ht hfa
              gi_wp2
              exact hfin.out
          · have fin := fin (by rw [hst.out, if_neg]; intro h; have := h.2.2.2; simp only at this; omega)
            have fin := Lib.hid fin
            have hs2' : (((data.size : Int)) == 256) = false := by rw [beq_eq_false_iff_ne]; omega
            gi_wp2
            exact fin.out

/-- **fate.After.** -/
theorem after_calls (A0 : Option Addr) (c0 : Nat) (was : List ByteArray) (A1 : Option Addr) (c1 : Nat) (l : List S43) (A2 : Option Addr) (c2 : Nat) (came : List Bool) (torn at_ : Int) (w : World)
    (hr0 : Kd.C Kd.string w A0 was.length was) (hr1 : Kd.C k43 w A1 l.length l) (hr2 : Kd.C Kd.bool w A2 came.length came)
    (hall : All256 was) (hm : was.length ≤ 17592186044416) :
    Calls Try.prog 19 #[.slice A0 was.length c0, .slice A1 l.length c1, .agg #[.slice A2 came.length c2, .int .i64 torn, .int .i64 at_]] w (AfterPost w (fateAfter was l came torn at_)) :=
  (callsIn_wide (n := 9)).1 (after_in A0 c0 was A1 c1 l A2 c2 came torn at_ w hr0 hr1 hr2 hall hm)
end Go.Proofs.Ytknibnbepmdapaa
