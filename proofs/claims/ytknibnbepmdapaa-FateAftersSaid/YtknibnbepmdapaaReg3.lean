/-
A region that draws its order and holds calls, walked once: the operations that only read float, each with its designated value in every world that meets an invariant; the others (a list of places) come in one order.
-/
import Derived.Test.YtknibnbepmdapaaReg
namespace Go.Proofs.Ytknibnbepmdapaa
open Go

def mixOp (bs : List Nat) (size : Nat) (ops : Array Oper) (i : Nat) (o : Oper) : Bool :=
  (match o.op with | .select _ _ => false | .defer _ => false | _ => true) &&
  o.guard.isNone &&
  (match o.dst with | some d => decide (d < size) | none => bs.contains i) &&
  ((List.range ops.size).all fun j => j == i || bs.contains j || (match o.dst, (ops[j]?).bind (·.dst) with | some d, some d' => d != d' | _, _ => true)) &&
  ((List.range ops.size).all fun j => (if bs.contains j then bs.contains i else (binding o).contains j) || (match (ops[j]?).bind (·.dst) with
    | some d => o.op.operands.toList.all fun | .tmp t => t != d | _ => true
    | none => true)) &&
  ((binding o).all fun k => decide (k < i))

def chainB (ops : Array Oper) : List Nat → Bool
  | b :: b' :: r => (match ops[b']? with | some o => (binding o).contains b | none => false) && chainB ops (b' :: r)
  | _ => true

def mixOk (bs : List Nat) (size : Nat) (ops : Array Oper) : Bool :=
  ((List.range ops.size).all fun i => match ops[i]? with | some o => mixOp bs size ops i o | none => false) && chainB ops bs && bs.all (fun b => decide (b < ops.size)) && decide (bs.Nodup) &&
  (match bs.getLast? with | some e => (List.range ops.size).all (fun i => bs.contains i || (match ops[e]? with | some o => (binding o).contains i | none => false)) | none => false)

structure MixFacts (bs : List Nat) (size : Nat) (ops : Array Oper) : Prop where
  calm : ∀ (i : Nat) (o : Oper), ops[i]? = some o → (∀ cs b, o.op ≠ .select cs b) ∧ ∀ c, o.op ≠ .defer c
  plain : ∀ (i : Nat) (o : Oper), ops[i]? = some o → o.guard = none
  dst : ∀ (i : Nat) (o : Oper), ops[i]? = some o → i ∉ bs → ∃ d, o.dst = some d ∧ d < size
  apart : ∀ (i j : Nat) (o o' : Oper) (d : Nat), j ≠ i → j ∉ bs → ops[i]? = some o → ops[j]? = some o' → o.dst = some d → o'.dst ≠ some d
  needA : ∀ (i j : Nat) (o o' : Oper) (t : Nat), j ∉ bs → ops[i]? = some o → ops[j]? = some o' → o'.dst = some t → .tmp t ∈ o.op.operands → j ∈ binding o
  needB : ∀ (i j : Nat) (o o' : Oper) (t : Nat), i ∉ bs → j ∈ bs → ops[i]? = some o → ops[j]? = some o' → o'.dst = some t → .tmp t ∉ o.op.operands
  up : ∀ (i : Nat) (o : Oper) (k : Nat), ops[i]? = some o → k ∈ binding o → k < i
  chain : chainB ops bs = true
  inB : ∀ b ∈ bs, b < ops.size
  last : ∃ e ∈ bs, ∀ i, i < ops.size → i ∉ bs → ∃ o, ops[e]? = some o ∧ i ∈ binding o

theorem mixFacts {bs : List Nat} {size : Nat} {ops : Array Oper} (h : mixOk bs size ops = true) : MixFacts bs size ops := by
  unfold mixOk at h
  simp only [Bool.and_eq_true, decide_eq_true_eq] at h
  obtain ⟨⟨⟨⟨hA, hch⟩, hin⟩, _⟩, hlast⟩ := h
  have hop : ∀ i o, ops[i]? = some o → mixOp bs size ops i o = true := fun i o ho => by
    have := List.all_eq_true.1 hA i (List.mem_range.2 (Array.getElem?_eq_some_iff.1 ho).1); rw [ho] at this; exact this
  have hparts : ∀ i o, ops[i]? = some o → _ := fun i o ho => by
    have := hop i o ho
    unfold mixOp at this
    simp only [Bool.and_eq_true] at this
    exact this
  refine ⟨?_, ?_, ?_, ?_, ?_, ?_, ?_, hch, fun b hb => by simpa using List.all_eq_true.1 hin b hb, ?_⟩
  rotate_right
  · cases hl : bs.getLast? with
    | none => rw [hl] at hlast; cases hlast
    | some e =>
      rw [hl] at hlast
      refine ⟨e, List.mem_of_getLast? hl, fun i hi hn => ?_⟩
      have h1 := List.all_eq_true.1 hlast i (List.mem_range.2 hi)
      cases ho : ops[e]? with
      | none => rw [ho] at h1; simp at h1; exact absurd h1 hn
      | some o =>
        rw [ho] at h1
        simp only [Bool.or_eq_true, List.contains_iff_mem] at h1
        rcases h1 with h1 | h1
        · exact absurd h1 hn
        · exact ⟨o, rfl, h1⟩
  · intro i o ho
    obtain ⟨⟨⟨⟨⟨h1, _⟩, _⟩, _⟩, _⟩, _⟩ := hparts i o ho
    constructor
    · intro cs b e; rw [e] at h1; simp at h1
    · intro c e; rw [e] at h1; simp at h1
  · intro i o ho
    obtain ⟨⟨⟨⟨⟨_, h1⟩, _⟩, _⟩, _⟩, _⟩ := hparts i o ho
    exact Option.isNone_iff_eq_none.1 h1
  · intro i o ho hi
    obtain ⟨⟨⟨⟨_, h1⟩, _⟩, _⟩, _⟩ := hparts i o ho
    cases hd : o.dst with
    | none => rw [hd] at h1; exact absurd (List.contains_iff_mem.1 h1) hi
    | some d => rw [hd] at h1; exact ⟨d, rfl, by simpa using h1⟩
  · intro i j o o' d hij hj ho ho' hd hd'
    obtain ⟨⟨⟨_, h1⟩, _⟩, _⟩ := hparts i o ho
    have := List.all_eq_true.1 h1 j (List.mem_range.2 (Array.getElem?_eq_some_iff.1 ho').1)
    rw [ho', hd] at this
    simp [hd', hij, hj] at this
  · intro i j o o' t hj ho ho' ht hx
    obtain ⟨⟨_, h1⟩, _⟩ := hparts i o ho
    have := List.all_eq_true.1 h1 j (List.mem_range.2 (Array.getElem?_eq_some_iff.1 ho').1)
    rw [ho'] at this
    rw [if_neg (by simpa using hj)] at this
    simp only [Option.bind_some, ht, Bool.or_eq_true, List.contains_iff_mem, List.all_eq_true] at this
    rcases this with this | this
    · exact this
    · have := this (.tmp t) (Array.mem_toList_iff.2 hx)
      simp at this
  · intro i j o o' t hi hj ho ho' ht hx
    obtain ⟨⟨_, h1⟩, _⟩ := hparts i o ho
    have := List.all_eq_true.1 h1 j (List.mem_range.2 (Array.getElem?_eq_some_iff.1 ho').1)
    rw [ho'] at this
    rw [if_pos (by simpa using hj)] at this
    simp only [Option.bind_some, ht, Bool.or_eq_true, List.contains_iff_mem, List.all_eq_true] at this
    rcases this with this | this
    · exact hi this
    · have := this (.tmp t) (Array.mem_toList_iff.2 hx)
      simp at this
  · intro i o k ho hk
    obtain ⟨_, h1⟩ := hparts i o ho
    have := List.all_eq_true.1 h1 k hk
    simpa using this


/-- The ops that float. -/
def Floats (bs : List Nat) (ops : Array Oper) (i : Nat) : Prop := i < ops.size ∧ i ∉ bs

/-- How a frame stands to the one in which all that floats is done. -/
structure MixState (bs : List Nat) (ops : Array Oper) (rs : List Nat) (aC : Act) (l : Array Bool) (a : Act) : Prop where
  size : l.size = ops.size
  rest : ∀ b ∈ rs, l.getD b true = false
  past : ∃ ps, bs = ps ++ rs ∧ ∀ b ∈ ps, l.getD b true = true
  closed : ∀ b o, ops[b]? = some o → l.getD b true = true → ∀ k ∈ binding o, l.getD k true = true
  defers : a.defers = aC.defers
  tsize : a.tmps.size = aC.tmps.size
  same : ∀ t, (∀ i o, i ∉ bs → ops[i]? = some o → l.getD i true = false → o.dst ≠ some t) → a.tmps[t]? = aC.tmps[t]?

section
variable {bs rs : List Nat} {ops : Array Oper} {aC a : Act} {l : Array Bool}

theorem MixState.sees (hs : MixState bs ops rs aC l a) (hf : MixFacts bs aC.tmps.size ops) {i : Nat} {o : Oper} (ho : ops[i]? = some o) (hb : ∀ k ∈ binding o, l.getD k false = true) :
    ∀ x ∈ o.op.operands, a.eval x = aC.eval x := by
  intro x hx
  cases x with
  | tmp t =>
    show a.tmps.getD t undef = aC.tmps.getD t undef
    rw [Array.getD_eq_getD_getElem?, Array.getD_eq_getD_getElem?]
    congr 1
    refine hs.same t fun j o' hj ho' hl e => ?_
    have := hb j (hf.needA i j o o' t hj ho ho' e hx)
    have h2 := getD_false this
    rw [hl] at h2
    cases h2
  | const v => rfl
  | global g => rfl
  | func f => rfl

theorem closed_set {l : Array Bool} {ops : Array Oper} (h : ∀ b o, ops[b]? = some o → l.getD b true = true → ∀ k ∈ binding o, l.getD k true = true) {i : Nat} {o : Oper} (hlt : i < l.size) (ho : ops[i]? = some o) (hbd : ∀ k ∈ binding o, l.getD k true = true) :
    ∀ b o, ops[b]? = some o → (l.setIfInBounds i true).getD b true = true → ∀ k ∈ binding o, (l.setIfInBounds i true).getD k true = true := by
  intro b o' hb' hdone k hk
  rw [getD_set hlt]
  split
  · rfl
  · rw [getD_set hlt] at hdone
    split at hdone
    · rename_i e
      subst e
      rw [ho] at hb'; cases hb'
      exact hbd k hk
    · exact h b o' hb' hdone k hk

/-- A step of what floats. -/
theorem MixState.float (hs : MixState bs ops rs aC l a) {i : Nat} {o : Oper} {v : Value} {d : Nat} (hi : i ∉ bs) (ho : ops[i]? = some o) (hd : o.dst = some d) (hv : aC.tmps[d]? = some v) (hbd : ∀ k ∈ binding o, l.getD k true = true) :
    MixState bs ops rs aC (l.setIfInBounds i true) (a.put o.dst v) := by
  have hlt : i < l.size := by rw [hs.size]; exact (Array.getElem?_eq_some_iff.1 ho).1
  have hput : (a.put o.dst v).tmps = a.tmps.setIfInBounds d v := by rw [hd]; rfl
  have hpd : (a.put o.dst v).defers = a.defers := by rw [hd]; rfl
  obtain ⟨ps, hps, hpast⟩ := hs.past
  refine ⟨by rw [Array.size_setIfInBounds]; exact hs.size, fun b hb => ?_, ⟨ps, hps, fun b hb => ?_⟩, closed_set hs.closed hlt ho hbd, by rw [hpd]; exact hs.defers, by rw [hput, Array.size_setIfInBounds]; exact hs.tsize, fun t ht => ?_⟩
  · rw [getD_set hlt, if_neg (fun e => hi (by rw [← e, hps]; exact List.mem_append_right _ hb))]
    exact hs.rest b hb
  · rw [getD_set hlt]; split; rfl; exact hpast b hb
  · rw [hput]
    by_cases e : d = t
    · subst e
      have hds : d < a.tmps.size := by rw [hs.tsize]; exact (Array.getElem?_eq_some_iff.1 hv).1
      rw [Array.getElem?_setIfInBounds_self, hv]
      simp [hds]
    · rw [Array.getElem?_setIfInBounds_ne e]
      refine hs.same t fun j oj hj hoj hlj => ?_
      by_cases hji : j = i
      · subst hji
        rw [ho] at hoj; cases hoj
        rw [hd]; simpa using e
      · exact ht j oj hj hoj (by rw [getD_set hlt, if_neg hji]; exact hlj)

/-- A step of the others. -/
theorem MixState.step {b : Nat} (hs : MixState bs ops (b :: rs) aC l a) {o : Oper} (v : Value) (hb : b ∈ bs) (ho : ops[b]? = some o) (hnd : b ∉ rs) (hbd : ∀ k ∈ binding o, l.getD k true = true) :
    MixState bs ops rs (aC.put o.dst v) (l.setIfInBounds b true) (a.put o.dst v) := by
  have hlt : b < l.size := by rw [hs.size]; exact (Array.getElem?_eq_some_iff.1 ho).1
  have hpd : ∀ x : Act, (x.put o.dst v).defers = x.defers := fun x => by cases hd : o.dst <;> rfl
  have hsz : ∀ x : Act, (x.put o.dst v).tmps.size = x.tmps.size := fun x => by
    cases hd : o.dst with
    | none => rfl
    | some d => show (x.tmps.setIfInBounds d v).size = _; rw [Array.size_setIfInBounds]
  obtain ⟨ps, hps, hpast⟩ := hs.past
  refine ⟨by rw [Array.size_setIfInBounds]; exact hs.size, fun r hr => ?_, ⟨ps ++ [b], by rw [hps, List.append_assoc]; rfl, fun r hr => ?_⟩, closed_set hs.closed hlt ho hbd, by rw [hpd, hpd]; exact hs.defers, by rw [hsz, hsz]; exact hs.tsize, fun t ht => ?_⟩
  · rw [getD_set hlt, if_neg (fun e => hnd (by rw [← e]; exact hr))]
    exact hs.rest r (List.mem_cons_of_mem _ hr)
  · rw [getD_set hlt]
    split
    · rfl
    · rcases List.mem_append.1 hr with h | h
      · exact hpast r h
      · rw [List.mem_singleton] at h; contradiction
  · have h0 : a.tmps[t]? = aC.tmps[t]? := hs.same t fun j oj hj hoj hlj => ht j oj hj hoj (by rw [getD_set hlt, if_neg (fun e => hj (by rw [e]; exact hb))]; exact hlj)
    cases hd : o.dst with
    | none => exact h0
    | some d =>
      show (a.tmps.setIfInBounds d v)[t]? = (aC.tmps.setIfInBounds d v)[t]?
      by_cases e : d = t
      · subst e
        rw [Array.getElem?_setIfInBounds_self, Array.getElem?_setIfInBounds_self, hs.tsize]
      · rw [Array.getElem?_setIfInBounds_ne e, Array.getElem?_setIfInBounds_ne e]
        exact h0

theorem chain_suffix {ps : List Nat} : chainB ops (ps ++ rs) = true → chainB ops rs = true := by
  induction ps with
  | nil => exact id
  | cons p ps ih =>
    intro h
    apply ih
    cases hps : ps ++ rs with
    | nil => rfl
    | cons q r =>
      rw [List.cons_append, hps] at h
      simp only [chainB, Bool.and_eq_true] at h
      exact h.2

theorem chain_pred {i : Nat} {o : Oper} (ho : ops[i]? = some o) : ∀ (rs : List Nat) (b : Nat), chainB ops (b :: rs) = true → i ∈ rs → ∃ p ∈ b :: rs, p ∈ binding o
  | [], b, _, hi => by cases hi
  | c :: rs, b, h, hi => by
    simp only [chainB, Bool.and_eq_true] at h
    rcases List.mem_cons.1 hi with rfl | hi
    · rw [ho] at h
      exact ⟨b, List.mem_cons_self, List.contains_iff_mem.1 h.1⟩
    · obtain ⟨p, hp, hpb⟩ := chain_pred ho rs c h.2 hi
      exact ⟨p, List.mem_cons_of_mem _ hp, hpb⟩
end

section
variable {F : Fence} {n : Nat} {P : Program} {bs : List Nat} {ops : Array Oper} {Q : Exit → Act → World → Prop} {aV : Act} {I : World → Prop}

def PostC (a : Act) (K : Act → World → Prop) : Exit → Act → World → Prop
  | .normal, a', w' => a'.defers = a.defers ∧ K a' w'
  | _, _, _ => False

/-- The others, one behind the other. -/
def ChainIn (F : Fence) (n : Nat) (P : Program) (ops : Array Oper) (I : World → Prop) (Q : Exit → Act → World → Prop) : List Nat → Act → World → Prop
  | [], a, w => Q .normal a w
  | b :: rs, a, w => I w ∧ ∀ o, ops[b]? = some o → wpListIn F n P ops (PostC a (ChainIn F n P ops I Q rs)) [o] a w

theorem upon_chainIn {o : Oper} {a aC : Act} {K K' : Act → World → Prop} {r : Result Next}
    (h : o.uponIn F n P aC (fun a' w' => a'.defers = aC.defers ∧ K' a' w') (PostC aC K') r)
    (hk : ∀ v w', K' (aC.put o.dst v) w' → K (a.put o.dst v) w') : o.uponIn F n P a K Q r := by
  cases r with
  | ok x w' =>
    cases x <;> simp only [Oper.uponIn] at h ⊢
    case value v => exact hk v w' h.2
    case skip => exact hk _ w' h.2
    case enter f args =>
      refine ⟨h.1, h.2.mono fun e w'' he => ?_⟩
      cases e with
      | returned v => exact hk v w'' he.2
      | panicked c => exact he.elim
      | outgrown => obtain ⟨_, _, he⟩ := he; exact he.elim
    case row row args => exact ⟨h.1, h.2.mono fun v w'' he => hk v w'' he.2⟩
    case round l f tmps assign body =>
      refine ⟨h.1, h.2.mono fun e w'' he => ?_⟩
      cases e with
      | returned v => exact hk v w'' he.2
      | panicked c => exact he.elim
      | outgrown => obtain ⟨_, _, he⟩ := he; exact he.elim
    case defer d =>
      exfalso
      have h1 := h.1
      have h2 : (({ aC with defers := d :: aC.defers } : Act).put o.dst undef).defers = d :: aC.defers := by cases hd : o.dst <;> rfl
      rw [h2] at h1
      have := congrArg List.length h1
      simp at this
  | halt x w' =>
    cases x <;> simp only [Oper.uponIn] at h ⊢ <;> exact h.elim

theorem unlisted_dec {N i : Nat} {l : Array Bool} (hi : i < l.size) : unlisted N l ≤ unlisted N (l.setIfInBounds i true) + 1 := by
  unfold unlisted
  have : ∀ (L : List Nat), L.Nodup → L.countP (fun j => !l.getD j true) ≤ L.countP (fun j => !(l.setIfInBounds i true).getD j true) + 1 := by
    intro L
    induction L with
    | nil => simp
    | cons x L ihL =>
      intro hnd
      rw [List.nodup_cons] at hnd
      have ihL := ihL hnd.2
      rw [List.countP_cons, List.countP_cons, getD_set hi]
      by_cases e : x = i
      · subst e
        have hsame : L.countP (fun j => !l.getD j true) = L.countP (fun j => !(l.setIfInBounds x true).getD j true) := by
          apply List.countP_congr
          intro y hy
          have hyx : y ≠ x := fun e => hnd.1 (by rw [← e]; exact hy)
          rw [getD_set hi, if_neg hyx]
        rw [hsame]
        simp
        split <;> omega
      · rw [if_neg e]; split <;> omega
  exact this _ List.nodup_range

theorem unlisted_all {N : Nat} {l : Array Bool} (h : unlisted N l = 0) {j : Nat} (hj : j < N) : l.getD j true = true := by
  cases hb : l.getD j true with
  | true => rfl
  | false =>
    unfold unlisted at h
    have := List.countP_eq_zero.1 h j (List.mem_range.2 hj)
    rw [hb] at this
    simp at this

theorem unlisted_some {N : Nat} {l : Array Bool} (h : unlisted N l ≠ 0) : ∃ i, i < N ∧ l.getD i true = false ∧ ∀ j, j < i → l.getD j true = true := by
  have hex : ∃ i, i < N ∧ l.getD i true = false := by
    by_cases h' : ∃ i, i < N ∧ l.getD i true = false
    · exact h'
    · exact absurd (unlisted_zero fun j hj => by cases hb : l.getD j true with | true => rfl | false => exact absurd ⟨j, hj, hb⟩ h') h
  obtain ⟨i, hi, hb⟩ := hex
  induction i using Nat.strongRecOn with
  | _ i ihi =>
    by_cases h' : ∃ j, j < i ∧ l.getD j true = false
    · obtain ⟨j, hj, hjb⟩ := h'; exact ihi j hj (by omega) hjb
    · exact ⟨i, hi, hb, fun j hj => by cases hb' : l.getD j true with | true => rfl | false => exact absurd ⟨j, hj, hb'⟩ h'⟩

theorem mix_sound (hf : MixFacts bs aV.tmps.size ops) (hfloat : ∀ i o, i ∉ bs → ops[i]? = some o → ∀ w, I w → wpListIn F n P ops (PostA aV (fun w' => w' = w)) [o] aV w) :
    ∀ (d : Nat) (rs : List Nat) (l : Array Bool) (aC a : Act) (w : World), unlisted ops.size l = d → rs.Nodup → MixState bs ops rs aC l a → aC.tmps.size = aV.tmps.size →
      (∀ t, (∀ b ∈ bs, ∀ o, ops[b]? = some o → o.dst ≠ some t) → aC.tmps[t]? = aV.tmps[t]?) → ChainIn F n P ops I Q rs aC w → wpAnyIn F n P .any ops Q d l a w := by
  intro d
  induction d with
  | zero =>
    intro rs l aC a w hd hn hs hsz hCV hch
    have hall : ∀ j, j < ops.size → l.getD j true = true := fun j hj => unlisted_all hd hj
    have hr : Region.ready .any ops l = [] := by
      rw [List.eq_nil_iff_forall_not_mem]
      intro i hi
      obtain ⟨o, ho, h1, _⟩ := mem_ready.1 hi
      rw [hall i (Array.getElem?_eq_some_iff.1 ho).1] at h1
      cases h1
    refine ⟨hr, ?_⟩
    cases rs with
    | cons b rs =>
      exfalso
      obtain ⟨ps, hps, _⟩ := hs.past
      have hb := hf.inB b (by rw [hps]; exact List.mem_append_right _ List.mem_cons_self)
      have h1 := hs.rest b List.mem_cons_self
      rw [hall b hb] at h1
      cases h1
    | nil =>
      have hae : a = aC := by
        have ht : a.tmps = aC.tmps := by
          apply Array.ext_getElem?
          intro t
          refine hs.same t fun i o _ ho hl => ?_
          rw [hall i (Array.getElem?_eq_some_iff.1 ho).1] at hl
          cases hl
        have hdf := hs.defers
        obtain ⟨t, d⟩ := a
        obtain ⟨t', d'⟩ := aC
        simp only at ht hdf
        rw [ht, hdf]
      rw [hae]
      exact hch
  | succ d ih =>
    intro rs l aC a w hd hn hs hsz hCV hch
    have hfC : MixFacts bs aC.tmps.size ops := by rw [hsz]; exact hf
    obtain ⟨i0, hi0, hb0, hmin⟩ := unlisted_some (N := ops.size) (l := l) (by omega)
    have hr0 : i0 ∈ Region.ready .any ops l := mem_ready.2 ⟨ops[i0], Array.getElem?_eq_getElem hi0, hb0, fun k hk => by
      have := hf.up i0 _ k (Array.getElem?_eq_getElem hi0) hk
      rw [getD_lt (by rw [hs.size]; omega) false true]
      exact hmin k this⟩
    refine ⟨fun h0 => by rw [h0] at hr0; simp at hr0, fun i hi => ?_⟩
    obtain ⟨o, ho, h1, h2⟩ := mem_ready.1 hi
    have his : i < ops.size := (Array.getElem?_eq_some_iff.1 ho).1
    have hil : i < l.size := by rw [hs.size]; exact his
    have hdec : unlisted ops.size (l.setIfInBounds i true) = d := by
      have hlt := unlisted_set (n := ops.size) his hil h1
      have hge := unlisted_dec (N := ops.size) hil
      omega
    have hpl := hf.plain i o ho
    have hw : ∀ t : Array Value, Region.wanted o (yielded ops t) = true := fun t => by unfold Region.wanted; rw [hpl]
    have heval := hs.sees hfC ho h2
    obtain ⟨hsel, hdef⟩ := hf.calm i o ho
    unfold wpOpIn
    rw [ho]
    simp only
    rw [if_pos (hw _)]
    by_cases hib : i ∈ bs
    · obtain ⟨ps, hps, hpast⟩ := hs.past
      have hir : i ∈ rs := by
        rw [hps] at hib
        rcases List.mem_append.1 hib with h | h
        · rw [hpast i h] at h1; cases h1
        · exact h
      cases rs with
      | nil => cases hir
      | cons b rs =>
        have hbi : b = i := by
          rcases List.mem_cons.1 hir with h | h
          · exact h.symm
          · exfalso
            obtain ⟨p, hp, hpb⟩ := chain_pred ho rs b (chain_suffix (ps := ps) (by rw [← hps]; exact hf.chain)) h
            have h3 := getD_false (h2 p hpb)
            rw [hs.rest p hp] at h3
            cases h3
        subst hbi
        rw [List.nodup_cons] at hn
        have hop := hch.2 o ho
        simp only [wpListIn] at hop
        rw [if_pos (hw _)] at hop
        refine ⟨fun f hfa => hop.1 f (by rw [← about_congr o w heval]; exact hfa), ?_⟩
        have h3 := hop.2
        rw [Oper.semAt_eq _ _ _ hdef] at h3 ⊢
        rw [execOp_congr o hsel heval]
        refine upon_chainIn h3 fun v w' hv => ih rs _ _ _ w' hdec hn.2 (hs.step v hib ho hn.1 fun k hk => getD_false (h2 k hk)) ?_ (fun t ht => ?_) hv
        · rw [← hsz]
          cases hd : o.dst with
          | none => rfl
          | some dd => show (aC.tmps.setIfInBounds dd v).size = _; rw [Array.size_setIfInBounds]
        · rw [← hCV t ht]
          cases hd : o.dst with
          | none => rfl
          | some dd =>
            show (aC.tmps.setIfInBounds dd v)[t]? = _
            exact Array.getElem?_setIfInBounds_ne (fun e => ht b hib o ho (by rw [hd, e]))
    · obtain ⟨dd, hdd, hds⟩ := hf.dst i o ho hib
      have hinv : I w := by
        cases rs with
        | cons b rs => exact hch.1
        | nil =>
          exfalso
          obtain ⟨ps, hps, hpast⟩ := hs.past
          rw [List.append_nil] at hps
          obtain ⟨e, he, hall⟩ := hf.last
          obtain ⟨oe, hoe, hbe⟩ := hall i his hib
          have h4 := hs.closed e oe hoe (hpast e (by rw [← hps]; exact he)) i hbe
          rw [h1] at h4
          cases h4
      have hop := hfloat i o hib ho w hinv
      simp only [wpListIn] at hop
      rw [if_pos (hw _)] at hop
      have hevV : ∀ x ∈ o.op.operands, a.eval x = aV.eval x := fun x hx => by
        rw [heval x hx]
        cases x with
        | tmp t =>
          show aC.tmps.getD t undef = aV.tmps.getD t undef
          rw [Array.getD_eq_getD_getElem?, Array.getD_eq_getD_getElem?, hCV t fun b hb o' ho' e => hf.needB i b o o' t hib hb ho ho' e hx]
        | const v => rfl
        | global g => rfl
        | func f => rfl
      refine ⟨fun f hfa => hop.1 f (by rw [← about_congr o w hevV]; exact hfa), ?_⟩
      have h3 := hop.2
      rw [Oper.semAt_eq _ _ _ hdef] at h3 ⊢
      rw [execOp_congr o hsel hevV]
      refine upon_transferIn (I := fun w' => w' = w) h3 fun v w' hv hI' => ?_
      subst hI'
      have hvd : aV.tmps[dd]? = some v := by
        have h4 : aV.tmps.setIfInBounds dd v = aV.tmps := by have := congrArg Act.tmps hv; rw [hdd] at this; exact this
        rw [← h4, Array.getElem?_setIfInBounds_self]
        simp [hds]
      refine ih rs _ aC _ w' hdec hn (hs.float hib ho hdd ?_ fun k hk => getD_false (h2 k hk)) hsz hCV hch
      rw [hCV dd fun b hb o' ho' e => hf.apart b i o' o dd (fun e => hib (by rw [e]; exact hb)) hib ho' ho e hdd]
      exact hvd

/-- The operations that float. -/
def floatsFrom (bs : List Nat) : Nat → List Oper → List Oper
  | _, [] => []
  | i, o :: os => if bs.contains i then floatsFrom bs (i + 1) os else o :: floatsFrom bs (i + 1) os

theorem floatsFrom_mem : ∀ (L : List Oper) (k j : Nat) (o : Oper), L[j]? = some o → k + j ∉ bs → o ∈ floatsFrom bs k L
  | [], _, _, _, h, _ => by simp at h
  | x :: L, k, 0, o, h, hn => by
    simp only [List.getElem?_cons_zero, Option.some.injEq] at h
    subst h
    unfold floatsFrom
    rw [if_neg (by simpa using hn)]
    exact List.mem_cons_self
  | x :: L, k, j + 1, o, h, hn => by
    rw [List.getElem?_cons_succ] at h
    have := floatsFrom_mem L (k + 1) j o h (by rw [show k + 1 + j = k + (j + 1) by omega]; exact hn)
    unfold floatsFrom
    split
    · exact this
    · exact List.mem_cons_of_mem _ this

theorem floatsFrom_idx : ∀ (L : List Oper) (k : Nat) (o : Oper), o ∈ floatsFrom bs k L → ∃ j, L[j]? = some o ∧ k + j ∉ bs
  | [], _, _, h => by cases h
  | x :: L, k, o, h => by
    unfold floatsFrom at h
    split at h
    · obtain ⟨j, hj, hn⟩ := floatsFrom_idx L (k + 1) o h
      exact ⟨j + 1, by rw [List.getElem?_cons_succ]; exact hj, by rw [show k + (j + 1) = k + 1 + j by omega]; exact hn⟩
    · rename_i hb
      rcases List.mem_cons.1 h with rfl | h
      · exact ⟨0, rfl, by simpa using hb⟩
      · obtain ⟨j, hj, hn⟩ := floatsFrom_idx L (k + 1) o h
        exact ⟨j + 1, by rw [List.getElem?_cons_succ]; exact hj, by rw [show k + (j + 1) = k + 1 + j by omega]; exact hn⟩

/-- **THE RULE, WITH CALLS IN ONE ORDER.** -/
theorem wpIn_region_mixed {id : Nat} {L : List Oper} {a : Act} {w : World} (bs : List Nat) (vs : List Value) (I : World → Prop) {tm : Array Value}
    (hm : P.follows .mixedOrders = true) (hok : mixOk bs a.tmps.size L.toArray = true) (htm : fillT (floatsFrom bs 0 L) vs a.tmps = tm) (hnd : bs.Nodup)
    (hfloat : ∀ w', I w' → AllIn F n P L.toArray { tmps := tm, defers := a.defers } (fun x => x = w') w' (floatsFrom bs 0 L))
    (hchain : ChainIn F n P L.toArray I Q bs { tmps := tm, defers := a.defers } w.drew) :
    (Code.region id L.toArray true).wpIn F n P Q a w := by
  subst htm
  have hsz : (fillT (floatsFrom bs 0 L) vs a.tmps).size = a.tmps.size := fillT_size _ _ _
  have hf : MixFacts bs ({ tmps := fillT (floatsFrom bs 0 L) vs a.tmps, defers := a.defers } : Act).tmps.size L.toArray := by
    show MixFacts bs (fillT (floatsFrom bs 0 L) vs a.tmps).size L.toArray
    rw [hsz]; exact mixFacts hok
  refine wpIn_region_any hm ?_
  have hcount : unlisted L.toArray.size (Array.replicate L.toArray.size false) = L.toArray.size := by
    have := unlisted_from (m := 0) (N := L.toArray.size) (l := Array.replicate L.toArray.size false) (Nat.zero_le _) (by simp) (fun j _ hj => by
      rw [Array.getD_eq_getD_getElem?, Array.getElem?_eq_getElem (by simpa using hj)]; simp) (fun i hi => by omega)
    simpa using this
  have hl : ∀ i, i < L.toArray.size → (Array.replicate L.toArray.size false).getD i true = false := fun i hi => by
    rw [Array.getD_eq_getD_getElem?, Array.getElem?_eq_getElem (by simpa using hi)]; simp
  refine mix_sound hf (fun i o hi ho w' hI => ?_) _ bs _ { tmps := fillT (floatsFrom bs 0 L) vs a.tmps, defers := a.defers } a _ hcount hnd ⟨by simp, fun b hb => hl b (hf.inB b hb), ⟨[], rfl, fun b hb => by cases hb⟩, fun b o hb hdone => ?_, rfl, hsz.symm, fun t ht => ?_⟩ rfl (fun _ _ => rfl) hchain
  · exact (hfloat w' hI).get (floatsFrom_mem L 0 i o (by simpa using ho) (by rw [Nat.zero_add]; exact hi))
  · rw [hl b (Array.getElem?_eq_some_iff.1 hb).1] at hdone
    cases hdone
  · refine (fillT_other _ _ _ fun o ho e => ?_).symm
    obtain ⟨j, hj, hn⟩ := floatsFrom_idx L 0 o ho
    have hoj : L.toArray[j]? = some o := by simpa using hj
    exact ht j o (by simpa using hn) hoj (hl j (Array.getElem?_eq_some_iff.1 hoj).1) e
end

end Go.Proofs.Ytknibnbepmdapaa
