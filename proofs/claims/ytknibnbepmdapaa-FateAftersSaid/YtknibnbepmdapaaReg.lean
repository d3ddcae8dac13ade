/-
A region that draws its order of evaluation, walked once: its first m operations each yield their designated value in every world that meets an invariant; the rest stand in a forced order behind them. In the plain calculus and in the fenced one.
-/
import Derived.OrdersIn
import Derived.RegionTactic
import Derived.TacticsIn
namespace Go.Proofs.Ytknibnbepmdapaa
open Go

def PostA (aV : Act) (I : World → Prop) : Exit → Act → World → Prop
  | .normal, a, w => a = aV ∧ I w
  | _, _, _ => False

def binding (o : Oper) : List Nat := (o.after.toList.filter fun e => Region.binds .any e).map (·.on)

def regOp (m size : Nat) (ops : Array Oper) (i : Nat) (o : Oper) : Bool :=
  (match o.op with | .select _ _ => false | .defer _ => false | _ => true) &&
  (match o.dst with | some d => decide (d < size) | none => true) &&
  ((List.range m).all fun j => j == i || (match o.dst, (ops[j]?).bind (·.dst) with | some d, some d' => d != d' | _, _ => true)) &&
  ((List.range m).all fun j => (binding o).contains j || (match (ops[j]?).bind (·.dst) with
    | some d => o.op.operands.toList.all fun | .tmp t => t != d | _ => true
    | none => true)) &&
  (match o.guard with | none => true | some (j, _) => decide (j < m) && (binding o).contains j && ((ops[j]?).bind (·.dst)).isSome) &&
  ((binding o).all fun k => decide (k < i))

def regOk (m size : Nat) (ops : Array Oper) : Bool :=
  decide (m ≤ ops.size) &&
  ((List.range m).all fun i => match ops[i]? with | some o => regOp m size ops i o | none => false) &&
  ((List.range ops.size).all fun i => decide (i < m) || (match ops[i]? with
    | some o => (List.range i).all (fun k => (binding o).contains k) && (binding o).all (fun k => decide (k < i))
    | none => false))

def fillT : List Oper → List Value → Array Value → Array Value
  | o :: os, v :: vs, t => fillT os vs (match o.dst with | some d => t.setIfInBounds d v | none => t)
  | _, _, t => t

theorem fillT_size : ∀ (os : List Oper) (vs : List Value) (t : Array Value), (fillT os vs t).size = t.size
  | [], _, _ => rfl
  | _ :: _, [], _ => rfl
  | o :: os, v :: vs, t => by
    unfold fillT
    rw [fillT_size]
    split <;> simp

theorem fillT_other {x : Nat} : ∀ (os : List Oper) (vs : List Value) (t : Array Value), (∀ o ∈ os, o.dst ≠ some x) → (fillT os vs t)[x]? = t[x]?
  | [], _, _, _ => rfl
  | _ :: _, [], _, _ => rfl
  | o :: os, v :: vs, t, h => by
    unfold fillT
    rw [fillT_other os vs _ fun o' ho' => h o' (List.mem_cons_of_mem _ ho')]
    have h0 := h o List.mem_cons_self
    split
    · rename_i d hd
      rw [hd] at h0
      exact Array.getElem?_setIfInBounds_ne (fun e => h0 (by rw [e]))
    · rfl

theorem countP_lt {α : Type} {p q : α → Bool} (hpq : ∀ x, q x = true → p x = true) {i : α} (hp : p i = true) (hq : q i = false) : ∀ (l : List α), i ∈ l → l.countP q < l.countP p
  | [], h => by simp at h
  | x :: l, h => by
    have hle : l.countP q ≤ l.countP p := List.countP_mono_left fun x _ hx => hpq x hx
    rw [List.countP_cons, List.countP_cons]
    rcases List.mem_cons.1 h with rfl | h
    · simp [hp, hq]; omega
    · have := countP_lt hpq hp hq l h
      cases hqx : q x with
      | false => simp; omega
      | true => simp [hpq x hqx]; omega

def unlisted (n : Nat) (l : Array Bool) : Nat := (List.range n).countP fun j => !l.getD j true

theorem getD_set {l : Array Bool} {i j : Nat} (h : i < l.size) : (l.setIfInBounds i true).getD j true = (if j = i then true else l.getD j true) := by
  rw [Array.getD_eq_getD_getElem?, Array.getD_eq_getD_getElem?, Array.getElem?_setIfInBounds]
  by_cases e : i = j
  · subst e; simp [h]
  · rw [if_neg e, if_neg (fun h => e h.symm)]

theorem unlisted_set {n i : Nat} {l : Array Bool} (hi : i < n) (hl : i < l.size) (h : l.getD i true = false) : unlisted n (l.setIfInBounds i true) < unlisted n l := by
  unfold unlisted
  refine countP_lt (i := i) (fun x hx => ?_) (by rw [h]; rfl) (by rw [getD_set hl, if_pos rfl]; rfl) _ (List.mem_range.2 hi)
  rw [getD_set hl] at hx
  split at hx
  · simp at hx
  · exact hx

theorem unlisted_zero {n : Nat} {l : Array Bool} (h : ∀ j, j < n → l.getD j true = true) : unlisted n l = 0 := by
  unfold unlisted
  rw [List.countP_eq_zero]
  intro j hj
  rw [h j (List.mem_range.1 hj)]
  simp

theorem mem_binding {o : Oper} {k : Nat} : k ∈ binding o ↔ ∃ e ∈ o.after, Region.binds .any e = true ∧ e.on = k := by
  unfold binding
  simp only [List.mem_map, List.mem_filter, Array.mem_toList_iff]
  exact ⟨fun ⟨e, h, he⟩ => ⟨e, h.1, h.2, he⟩, fun ⟨e, h1, h2, h3⟩ => ⟨e, ⟨h1, h2⟩, h3⟩⟩

theorem mem_ready {ops : Array Oper} {l : Array Bool} {i : Nat} : i ∈ Region.ready .any ops l ↔ ∃ o, ops[i]? = some o ∧ l.getD i true = false ∧ ∀ k ∈ binding o, l.getD k false = true := by
  unfold Region.ready
  rw [List.mem_filter, List.mem_range, Bool.and_eq_true, Bool.not_eq_true']
  constructor
  · rintro ⟨hi, h1, h2⟩
    refine ⟨ops[i], Array.getElem?_eq_getElem hi, h1, fun k hk => ?_⟩
    rw [Array.getElem?_eq_getElem hi] at h2
    simp only [Option.map_some, Option.getD_some, Array.all_eq_true] at h2
    obtain ⟨e, he, hb, rfl⟩ := mem_binding.1 hk
    obtain ⟨x, hx, rfl⟩ := Array.mem_iff_getElem.1 he
    have := h2 x hx
    rw [hb] at this
    simpa using this
  · rintro ⟨o, ho, h1, h2⟩
    obtain ⟨hi, rfl⟩ := Array.getElem?_eq_some_iff.1 ho
    refine ⟨hi, h1, ?_⟩
    rw [ho]
    simp only [Option.map_some, Option.getD_some, Array.all_eq_true]
    intro x hx
    cases hb : Region.binds .any ops[i].after[x] with
    | false => rfl
    | true => simpa [hb] using h2 _ (mem_binding.2 ⟨_, Array.getElem_mem hx, hb, rfl⟩)

structure RegFacts (m size : Nat) (ops : Array Oper) : Prop where
  le : m ≤ ops.size
  calm : ∀ i o, i < m → ops[i]? = some o → (∀ cs b, o.op ≠ .select cs b) ∧ ∀ c, o.op ≠ .defer c
  dst : ∀ i o d, i < m → ops[i]? = some o → o.dst = some d → d < size
  apart : ∀ i j o o' d, i < m → j < m → j ≠ i → ops[i]? = some o → ops[j]? = some o' → o.dst = some d → o'.dst ≠ some d
  needs : ∀ i j o o' t, i < m → j < m → ops[i]? = some o → ops[j]? = some o' → o'.dst = some t → .tmp t ∈ o.op.operands → j ∈ binding o
  guard : ∀ i o j b, i < m → ops[i]? = some o → o.guard = some (j, b) → j < m ∧ j ∈ binding o
  up : ∀ i o k, ops[i]? = some o → k ∈ binding o → k < i
  tail : ∀ i o k, m ≤ i → ops[i]? = some o → k < i → k ∈ binding o

theorem regFacts {m size : Nat} {ops : Array Oper} (h : regOk m size ops = true) : RegFacts m size ops := by
  unfold regOk at h
  simp only [Bool.and_eq_true, decide_eq_true_eq, List.all_eq_true, List.mem_range, Bool.or_eq_true] at h
  obtain ⟨⟨hle, hA⟩, hT⟩ := h
  have hop : ∀ i o, i < m → ops[i]? = some o → regOp m size ops i o = true := fun i o hi ho => by
    have := hA i hi; rw [ho] at this; exact this
  have hparts : ∀ i o, i < m → ops[i]? = some o → _ := fun i o hi ho => by
    have := hop i o hi ho
    unfold regOp at this
    simp only [Bool.and_eq_true] at this
    exact this
  refine ⟨hle, ?_, ?_, ?_, ?_, ?_, ?_, ?_⟩
  · intro i o hi ho
    obtain ⟨⟨⟨⟨⟨h1, _⟩, _⟩, _⟩, _⟩, _⟩ := hparts i o hi ho
    constructor
    · intro cs b e; rw [e] at h1; simp at h1
    · intro c e; rw [e] at h1; simp at h1
  · intro i o d hi ho hd
    obtain ⟨⟨⟨⟨⟨_, h1⟩, _⟩, _⟩, _⟩, _⟩ := hparts i o hi ho
    rw [hd] at h1; simpa using h1
  · intro i j o o' d hi hj hij ho ho' hd hd'
    obtain ⟨⟨⟨⟨⟨_, _⟩, h1⟩, _⟩, _⟩, _⟩ := hparts i o hi ho
    have := List.all_eq_true.1 h1 j (List.mem_range.2 hj)
    rw [ho', hd] at this
    simp [hd', hij] at this
  · intro i j o o' t hi hj ho ho' ht hx
    obtain ⟨⟨⟨⟨⟨_, _⟩, _⟩, h1⟩, _⟩, _⟩ := hparts i o hi ho
    have := List.all_eq_true.1 h1 j (List.mem_range.2 hj)
    rw [ho'] at this
    simp only [Option.bind_some, ht, Bool.or_eq_true, List.contains_iff_mem, List.all_eq_true] at this
    rcases this with this | this
    · exact this
    · have := this (.tmp t) (Array.mem_toList_iff.2 hx)
      simp at this
  · intro i o j b hi ho hg
    obtain ⟨⟨⟨⟨⟨_, _⟩, _⟩, _⟩, h1⟩, _⟩ := hparts i o hi ho
    rw [hg] at h1
    simp only [Bool.and_eq_true, decide_eq_true_eq, List.contains_iff_mem] at h1
    exact ⟨h1.1.1, h1.1.2⟩
  · intro i o k ho hk
    by_cases hi : i < m
    · obtain ⟨_, h1⟩ := hparts i o hi ho
      have := List.all_eq_true.1 h1 k hk
      simpa using this
    · have hlt : i < ops.size := (Array.getElem?_eq_some_iff.1 ho).1
      rcases hT i hlt with h1 | h1
      · omega
      · rw [ho] at h1
        simp only [Bool.and_eq_true, List.all_eq_true, decide_eq_true_eq] at h1
        exact h1.2 k hk
  · intro i o k hi ho hk
    have hlt : i < ops.size := (Array.getElem?_eq_some_iff.1 ho).1
    rcases hT i hlt with h1 | h1
    · omega
    · rw [ho] at h1
      simp only [Bool.and_eq_true, List.all_eq_true, List.mem_range, List.contains_iff_mem] at h1
      exact h1.1 k hk

/-- What the state of a run through the first m operations looks like. -/
structure RegState (m : Nat) (ops : Array Oper) (a0 aV : Act) (l : Array Bool) (a : Act) : Prop where
  size : l.size = ops.size
  late : ∀ j, m ≤ j → j < ops.size → l.getD j true = false
  defers : a.defers = aV.defers
  tsize : a.tmps.size = aV.tmps.size
  done : ∀ i o d, i < m → ops[i]? = some o → l.getD i true = true → o.dst = some d → a.tmps[d]? = aV.tmps[d]?
  open_ : ∀ t, (∀ i o, i < m → ops[i]? = some o → l.getD i true = true → o.dst ≠ some t) → a.tmps[t]? = a0.tmps[t]?

theorem getD_false {l : Array Bool} {k : Nat} (h : l.getD k false = true) : l.getD k true = true := by
  rw [Array.getD_eq_getD_getElem?] at h ⊢
  cases hk : l[k]? with
  | none => rfl
  | some b => rw [hk] at h; exact h

theorem getD_lt {l : Array Bool} {k : Nat} (h : k < l.size) (b b' : Bool) : l.getD k b = l.getD k b' := by
  rw [Array.getD_eq_getD_getElem?, Array.getD_eq_getD_getElem?, Array.getElem?_eq_getElem h]
  rfl

section
variable {m : Nat} {ops : Array Oper} {a0 aV a : Act} {l : Array Bool}

theorem RegState.sees (hs : RegState m ops a0 aV l a) (hf : RegFacts m aV.tmps.size ops) (hV : ∀ t, (∀ i o, i < m → ops[i]? = some o → o.dst ≠ some t) → aV.tmps[t]? = a0.tmps[t]?)
    {i : Nat} {o : Oper} (hi : i < m) (ho : ops[i]? = some o) (hb : ∀ k ∈ binding o, l.getD k false = true) : ∀ x ∈ o.op.operands, a.eval x = aV.eval x := by
  intro x hx
  cases x with
  | tmp t =>
    show a.tmps.getD t undef = aV.tmps.getD t undef
    rw [Array.getD_eq_getD_getElem?, Array.getD_eq_getD_getElem?]
    congr 1
    by_cases h : ∃ j o', j < m ∧ ops[j]? = some o' ∧ o'.dst = some t
    · obtain ⟨j, o', hj, ho', ht⟩ := h
      exact hs.done j o' t hj ho' (getD_false (hb j (hf.needs i j o o' t hi hj ho ho' ht hx))) ht
    · have h0 : ∀ i o, i < m → ops[i]? = some o → o.dst ≠ some t := fun i o hi ho e => h ⟨i, o, hi, ho, e⟩
      rw [hs.open_ t (fun i o hi ho _ => h0 i o hi ho), hV t h0]
  | const v => rfl
  | global g => rfl
  | func f => rfl

theorem RegState.wanted (hs : RegState m ops a0 aV l a) (hf : RegFacts m aV.tmps.size ops) {i : Nat} {o : Oper} (hi : i < m) (ho : ops[i]? = some o) (hb : ∀ k ∈ binding o, l.getD k false = true) :
    Region.wanted o (yielded ops a.tmps) = Region.wanted o (yielded ops aV.tmps) := by
  unfold Region.wanted
  cases hg : o.guard with
  | none => rfl
  | some jb =>
    obtain ⟨j, b⟩ := jb
    obtain ⟨hj, hjb⟩ := hf.guard i o j b hi ho hg
    have : yielded ops a.tmps j = yielded ops aV.tmps j := by
      unfold yielded
      cases hoj : ops[j]? with
      | none => rfl
      | some o' =>
        cases hd : o'.dst with
        | none => simp [hd]
        | some d => simp only [Option.bind_some, hd]; rw [hs.done j o' d hj hoj (getD_false (hb j hjb)) hd]
    simp only [this]

theorem RegState.next (hs : RegState m ops a0 aV l a) (hf : RegFacts m aV.tmps.size ops) {i : Nat} {o : Oper} {v : Value} (hi : i < m) (ho : ops[i]? = some o) (hv : aV.put o.dst v = aV) :
    RegState m ops a0 aV (l.setIfInBounds i true) (a.put o.dst v) := by
  have hlt : i < l.size := by rw [hs.size]; exact (Array.getElem?_eq_some_iff.1 ho).1
  have hput : ∀ d, o.dst = some d → (a.put o.dst v).tmps = a.tmps.setIfInBounds d v := fun d hd => by rw [hd]; rfl
  have hputn : o.dst = none → (a.put o.dst v).tmps = a.tmps := fun hd => by rw [hd]; rfl
  have hpd : (a.put o.dst v).defers = a.defers := by cases hd : o.dst <;> rfl
  refine ⟨by rw [Array.size_setIfInBounds]; exact hs.size, fun j hj hjs => ?_, by rw [hpd]; exact hs.defers, ?_, ?_, ?_⟩
  · rw [getD_set hlt, if_neg (by omega)]; exact hs.late j hj hjs
  · cases hd : o.dst with
    | none => exact hs.tsize
    | some d => show (a.tmps.setIfInBounds d v).size = _; rw [Array.size_setIfInBounds]; exact hs.tsize
  · intro j oj d hj hoj hlj hdj
    by_cases e : j = i
    · subst e
      rw [ho] at hoj; cases hoj
      rw [hput d hdj, Array.getElem?_setIfInBounds_self]
      have h1 : aV.tmps.setIfInBounds d v = aV.tmps := by have := congrArg Act.tmps hv; rw [hdj] at this; exact this
      rw [← h1, Array.getElem?_setIfInBounds_self, hs.tsize]
    · rw [getD_set hlt, if_neg e] at hlj
      have h0 := hs.done j oj d hj hoj hlj hdj
      cases hd : o.dst with
      | none => exact h0
      | some d' =>
        show (a.tmps.setIfInBounds d' v)[d]? = _
        rw [Array.getElem?_setIfInBounds_ne]
        · exact h0
        · rintro rfl
          exact hf.apart j i oj o d' hj hi (fun h => e h.symm) hoj ho hdj hd
  · intro t ht
    have h0 : a.tmps[t]? = a0.tmps[t]? := hs.open_ t fun j oj hj hoj hlj => ht j oj hj hoj (by rw [getD_set hlt]; split; rfl; exact hlj)
    have h1 : o.dst ≠ some t := ht i o hi ho (by rw [getD_set hlt, if_pos rfl])
    cases hd : o.dst with
    | none => exact h0
    | some d =>
      show (a.tmps.setIfInBounds d v)[t]? = _
      rw [Array.getElem?_setIfInBounds_ne (fun e => h1 (by rw [hd, e]))]
      exact h0

/-- Behind all of the first m operations the frame is the designated one. -/
theorem RegState.full (hs : RegState m ops a0 aV l a) (hV : ∀ t, (∀ i o, i < m → ops[i]? = some o → o.dst ≠ some t) → aV.tmps[t]? = a0.tmps[t]?)
    (hl : ∀ i, i < m → l.getD i true = true) : a = aV := by
  have ht : a.tmps = aV.tmps := by
    apply Array.ext_getElem?
    intro t
    by_cases h : ∃ j o', j < m ∧ ops[j]? = some o' ∧ o'.dst = some t
    · obtain ⟨j, o', hj, ho', hd⟩ := h
      exact hs.done j o' t hj ho' (hl j hj) hd
    · have h0 : ∀ i o, i < m → ops[i]? = some o → o.dst ≠ some t := fun i o hi ho e => h ⟨i, o, hi, ho, e⟩
      rw [hs.open_ t (fun i o hi ho _ => h0 i o hi ho), hV t h0]
  have hd := hs.defers
  obtain ⟨t, d⟩ := a
  obtain ⟨t', d'⟩ := aV
  simp only at ht hd
  rw [ht, hd]
end

/-! ### The fenced calculus -/
section
variable {F : Fence} {n : Nat} {P : Program} {m : Nat} {ops : Array Oper} {Q : Exit → Act → World → Prop} {a0 aV : Act} {I : World → Prop}

def AllIn (F : Fence) (n : Nat) (P : Program) (ops : Array Oper) (aV : Act) (I : World → Prop) (w : World) : List Oper → Prop
  | [] => True
  | o :: os => wpListIn F n P ops (PostA aV I) [o] aV w ∧ AllIn F n P ops aV I w os

theorem AllIn.get {w : World} {o : Oper} : ∀ {os : List Oper}, AllIn F n P ops aV I w os → o ∈ os → wpListIn F n P ops (PostA aV I) [o] aV w
  | [], _, hm => by simp at hm
  | x :: os, h, hm => by
    rcases List.mem_cons.1 hm with rfl | hm
    · exact h.1
    · exact AllIn.get h.2 hm

theorem upon_transferIn {o : Oper} {a : Act} {K : Act → World → Prop} {r : Result Next}
    (h : o.uponIn F n P aV (fun a' w' => a' = aV ∧ I w') (PostA aV I) r)
    (hk : ∀ v w', aV.put o.dst v = aV → I w' → K (a.put o.dst v) w') : o.uponIn F n P a K Q r := by
  cases r with
  | ok x w' =>
    cases x <;> simp only [Oper.uponIn] at h ⊢
    case value v => exact hk v w' h.1 h.2
    case skip => exact hk _ w' h.1 h.2
    case enter f args =>
      refine ⟨h.1, h.2.mono fun e w'' he => ?_⟩
      cases e with
      | returned v => exact hk v w'' he.1 he.2
      | panicked c => exact he.elim
      | outgrown => obtain ⟨_, _, he⟩ := he; exact he.elim
    case row row args => exact ⟨h.1, h.2.mono fun v w'' he => hk v w'' he.1 he.2⟩
    case round l f tmps assign body =>
      refine ⟨h.1, h.2.mono fun e w'' he => ?_⟩
      cases e with
      | returned v => exact hk v w'' he.1 he.2
      | panicked c => exact he.elim
      | outgrown => obtain ⟨_, _, he⟩ := he; exact he.elim
    case defer d =>
      exfalso
      have h1 := congrArg Act.defers h.1
      have h2 : ({ aV with defers := d :: aV.defers }.put o.dst undef).defers = d :: aV.defers := by cases hd : o.dst <;> rfl
      rw [h2] at h1
      have := congrArg List.length h1
      simp at this
  | halt x w' =>
    cases x <;> simp only [Oper.uponIn] at h ⊢ <;> exact h.elim

theorem tail_soundIn (hf : RegFacts m aV.tmps.size ops) : ∀ (d k : Nat) (l : Array Bool) (a : Act) (w : World), k + d = ops.size → m ≤ k → l.size = ops.size → (∀ j, j < ops.size → l.getD j true = decide (j < k)) →
    wpListIn F n P ops Q (ops.toList.drop k) a w → wpAnyIn F n P .any ops Q d l a w
  | 0, k, l, a, w, hk, _, hs, hl, h => by
    have hr : Region.ready .any ops l = [] := by
      rw [List.eq_nil_iff_forall_not_mem]
      intro i hi
      obtain ⟨o, ho, h1, _⟩ := mem_ready.1 hi
      have hi' : i < ops.size := (Array.getElem?_eq_some_iff.1 ho).1
      rw [hl i hi'] at h1
      simp at h1; omega
    refine ⟨hr, ?_⟩
    have : ops.toList.drop k = [] := List.drop_eq_nil_iff.2 (by simp; omega)
    rw [this] at h
    exact h
  | d + 1, k, l, a, w, hk, _hm, hs, hl, h => by
    have hks : k < ops.size := by omega
    have hok : ops[k]? = some ops[k] := Array.getElem?_eq_getElem hks
    have hdrop : ops.toList.drop k = ops[k] :: ops.toList.drop (k + 1) := by
      rw [List.drop_eq_getElem_cons (by simpa using hks)]; rfl
    rw [hdrop] at h
    have hset : ∀ j, j < ops.size → (l.setIfInBounds k true).getD j true = decide (j < k + 1) := fun j hj => by
      rw [getD_set (by omega), hl j hj]
      by_cases e : j = k
      · subst e; simp
      · rw [if_neg e]; congr 1; apply propext; omega
    have hb : ∀ k' ∈ binding ops[k], l.getD k' false = true := fun k' hk' => by
      have h1 := hf.up k _ k' hok hk'
      rw [getD_lt (by omega) false true, hl k' (by omega)]
      simpa using h1
    refine ⟨fun h0 => ?_, fun i hi => ?_⟩
    · exfalso
      have : k ∈ Region.ready .any ops l := mem_ready.2 ⟨ops[k], hok, by rw [hl k hks]; simp, hb⟩
      rw [h0] at this
      simp at this
    · obtain ⟨o, ho, h1, h2⟩ := mem_ready.1 hi
      have hi' : i < ops.size := (Array.getElem?_eq_some_iff.1 ho).1
      rw [hl i hi'] at h1
      have hki : k ≤ i := by simpa using h1
      have hik : i = k := by
        rcases Nat.lt_or_ge k i with hlt | hge
        · have h3 := h2 k (hf.tail i o k (by omega) ho hlt)
          rw [getD_lt (by omega) false true, hl k hks] at h3
          simp at h3
        · omega
      subst hik
      unfold wpOpIn
      rw [hok]
      simp only [wpListIn] at h
      simp only
      split
      · rename_i hw
        rw [if_pos hw] at h
        exact Oper.wpIn_mono (fun a w h' => tail_soundIn hf d (i + 1) _ a w (by omega) (by omega) (by simpa using hs) hset h') h
      · rename_i hw
        rw [if_neg hw] at h
        exact ⟨h.1, tail_soundIn hf d (i + 1) _ _ _ (by omega) (by omega) (by simpa using hs) hset h.2⟩

theorem unlisted_from {m N : Nat} {l : Array Bool} (hmN : m ≤ N) (hs : l.size = N) (h1 : ∀ j, m ≤ j → j < N → l.getD j true = false) (h2 : ∀ i, i < m → l.getD i true = true) : unlisted N l = N - m := by
  obtain ⟨d, rfl⟩ : ∃ d, N = m + d := ⟨N - m, by omega⟩
  have key : ∀ d', d' ≤ d → unlisted (m + d') l = d' := by
    intro d'
    induction d' with
    | zero => intro _; exact unlisted_zero (n := m + 0) fun j hj => h2 j (by omega)
    | succ d' ih =>
      intro hd
      have := ih (by omega)
      unfold unlisted at this ⊢
      rw [show m + (d' + 1) = (m + d') + 1 by omega, List.range_succ, List.countP_append, this, List.countP_singleton, h1 (m + d') (by omega) (by omega)]
      rfl
  rw [key d (Nat.le_refl _)]; omega

theorem reg_soundIn (hf : RegFacts m aV.tmps.size ops) (hV : ∀ t, (∀ i o, i < m → ops[i]? = some o → o.dst ≠ some t) → aV.tmps[t]? = a0.tmps[t]?)
    (hstep : ∀ w, I w → AllIn F n P ops aV I w (ops.toList.take m)) (htail : ∀ w, I w → wpListIn F n P ops Q (ops.toList.drop m) aV w) :
    ∀ (d : Nat) (l : Array Bool) (a : Act) (w : World), unlisted ops.size l = d → RegState m ops a0 aV l a → I w → wpAnyIn F n P .any ops Q d l a w := by
  intro d
  induction d using Nat.strongRecOn with
  | _ d ih =>
    intro l a w hd hs hI
    by_cases hall : ∀ i, i < m → l.getD i true = true
    · obtain rfl := hs.full hV hall
      have hcount := unlisted_from hf.le hs.size hs.late hall
      refine tail_soundIn hf d m l a w (by have := hf.le; omega) (Nat.le_refl _) hs.size (fun j hj => ?_) (htail w hI)
      by_cases hjm : j < m
      · rw [hall j hjm]; simp [hjm]
      · rw [hs.late j (by omega) hj]; simp [hjm]
    · have hex : ∃ i, i < m ∧ l.getD i true = false := by
        by_cases h : ∃ i, i < m ∧ l.getD i true = false
        · exact h
        · exact absurd (fun i hi => by cases hb : l.getD i true with | true => rfl | false => exact absurd ⟨i, hi, hb⟩ h) hall
      -- the least that is open
      have hleast : ∃ i, i < m ∧ l.getD i true = false ∧ ∀ j, j < i → l.getD j true = true := by
        obtain ⟨i, hi, hb⟩ := hex
        induction i using Nat.strongRecOn with
        | _ i ihi =>
          by_cases h : ∃ j, j < i ∧ l.getD j true = false
          · obtain ⟨j, hj, hjb⟩ := h; exact ihi j hj (by omega) hjb
          · exact ⟨i, hi, hb, fun j hj => by cases hb' : l.getD j true with | true => rfl | false => exact absurd ⟨j, hj, hb'⟩ h⟩
      obtain ⟨i0, hi0, hb0, hmin⟩ := hleast
      have hi0s : i0 < ops.size := by have := hf.le; omega
      have hr0 : i0 ∈ Region.ready .any ops l := mem_ready.2 ⟨ops[i0], Array.getElem?_eq_getElem hi0s, hb0, fun k hk => by
        have := hf.up i0 _ k (Array.getElem?_eq_getElem hi0s) hk
        rw [getD_lt (by rw [hs.size]; omega) false true]
        exact hmin k this⟩
      have hpos : 0 < d := by
        rw [← hd]
        refine Nat.pos_of_ne_zero fun h0 => ?_
        have := unlisted_set (n := ops.size) hi0s (by rw [hs.size]; exact hi0s) hb0
        omega
      obtain ⟨d', rfl⟩ : ∃ d', d = d' + 1 := ⟨d - 1, by omega⟩
      refine ⟨fun h0 => by rw [h0] at hr0; simp at hr0, fun i hi => ?_⟩
      obtain ⟨o, ho, h1, h2⟩ := mem_ready.1 hi
      have his : i < ops.size := (Array.getElem?_eq_some_iff.1 ho).1
      have him : i < m := by
        rcases Nat.lt_or_ge i m with h | h
        · exact h
        · exfalso
          have h3 := h2 i0 (hf.tail i o i0 h ho (by omega))
          rw [getD_lt (by rw [hs.size]; exact hi0s) false true, hb0] at h3
          simp at h3
      have hdec : unlisted ops.size (l.setIfInBounds i true) = d' := by
        have hlt := unlisted_set (n := ops.size) his (by rw [hs.size]; exact his) h1
        have hge : unlisted ops.size l ≤ unlisted ops.size (l.setIfInBounds i true) + 1 := by
          unfold unlisted
          have : ∀ (L : List Nat), L.Nodup → L.countP (fun j => !l.getD j true) ≤ L.countP (fun j => !(l.setIfInBounds i true).getD j true) + 1 := by
            intro L
            induction L with
            | nil => simp
            | cons x L ihL =>
              intro hnd
              rw [List.nodup_cons] at hnd
              have ihL := ihL hnd.2
              rw [List.countP_cons, List.countP_cons, getD_set (by rw [hs.size]; exact his)]
              by_cases e : x = i
              · subst e
                have hsame : L.countP (fun j => !l.getD j true) = L.countP (fun j => !(l.setIfInBounds x true).getD j true) := by
                  apply List.countP_congr
                  intro y hy
                  have hyx : y ≠ x := fun e => hnd.1 (by rw [← e]; exact hy)
                  rw [getD_set (by rw [hs.size]; exact his), if_neg hyx]
                rw [hsame]
                simp
                split <;> omega
              · rw [if_neg e]; split <;> omega
          exact this _ List.nodup_range
        omega
      have hstate : ∀ v, aV.put o.dst v = aV → ∀ w', I w' → wpAnyIn F n P .any ops Q d' (l.setIfInBounds i true) (a.put o.dst v) w' := fun v hv w' hI' =>
        ih d' (by omega) _ _ _ hdec (hs.next hf him ho hv) hI'
      have hmem : o ∈ ops.toList.take m := by
        have : (ops.toList.take m)[i]? = some o := by rw [List.getElem?_take, if_pos him]; simpa using ho
        exact List.mem_of_getElem? this
      have hop := (hstep w hI).get hmem
      unfold wpOpIn
      rw [ho]
      simp only
      rw [hs.wanted hf him ho h2]
      simp only [wpListIn] at hop
      have heval := hs.sees hf hV him ho h2
      obtain ⟨hsel, hdef⟩ := hf.calm i o him ho
      split
      · rename_i hw
        rw [if_pos hw] at hop
        refine ⟨fun f hfa => hop.1 f (by rw [← about_congr o w heval]; exact hfa), ?_⟩
        have h3 := hop.2
        rw [Oper.semAt_eq _ _ _ hdef] at h3 ⊢
        rw [execOp_congr o hsel heval]
        exact upon_transferIn h3 fun v w' hv hI' => hstate v hv w' hI'
      · rename_i hw
        rw [if_neg hw] at hop
        exact ⟨fun f hfa => hop.1 f (by rw [← about_congr o w heval]; exact hfa), hstate undef hop.2.1 w hop.2.2⟩

/-- **THE RULE.** -/
theorem wpIn_region_phases {id : Nat} {L : List Oper} {a : Act} {w : World} (m : Nat) (vs : List Value) (I : World → Prop) {tm : Array Value}
    (hm : P.follows .mixedOrders = true) (hok : regOk m a.tmps.size L.toArray = true) (htm : fillT (L.take m) vs a.tmps = tm)
    (h0 : I w.drew)
    (hstep : ∀ w', I w' → AllIn F n P L.toArray { tmps := tm, defers := a.defers } I w' (L.take m))
    (htail : ∀ w', I w' → wpListIn F n P L.toArray Q (L.drop m) { tmps := tm, defers := a.defers } w') :
    (Code.region id L.toArray true).wpIn F n P Q a w := by
  subst htm
  have hsz : (fillT (L.take m) vs a.tmps).size = a.tmps.size := fillT_size _ _ _
  have hf : RegFacts m ({ tmps := fillT (L.take m) vs a.tmps, defers := a.defers } : Act).tmps.size L.toArray := by
    show RegFacts m (fillT (L.take m) vs a.tmps).size L.toArray
    rw [hsz]; exact regFacts hok
  refine wpIn_region_any hm ?_
  have hcount : unlisted L.toArray.size (Array.replicate L.toArray.size false) = L.toArray.size := by
    have := unlisted_from (m := 0) (N := L.toArray.size) (l := Array.replicate L.toArray.size false) (Nat.zero_le _) (by simp) (fun j _ hj => by
      rw [Array.getD_eq_getD_getElem?, Array.getElem?_eq_getElem (by simpa using hj)]; simp) (fun i hi => by omega)
    simpa using this
  refine reg_soundIn (a0 := a) hf (fun t ht => ?_) (by simpa using hstep) (by simpa using htail) _ _ _ _ hcount ⟨by simp, fun j _ hj => by
      rw [Array.getD_eq_getD_getElem?, Array.getElem?_eq_getElem (by simpa using hj)]; simp, rfl, hsz.symm, fun i o d him ho hl _ => ?_, fun t _ => rfl⟩ h0
  · refine fillT_other _ _ _ fun o ho e => ?_
    obtain ⟨j, hj⟩ := List.mem_iff_getElem?.1 ho
    rw [List.getElem?_take] at hj
    split at hj
    · exact ht j o (by assumption) (by simpa using hj) e
    · simp at hj
  · exfalso
    have his : i < L.toArray.size := (Array.getElem?_eq_some_iff.1 ho).1
    rw [Array.getD_eq_getD_getElem?, Array.getElem?_eq_getElem (by simpa using his)] at hl
    simp at hl
end
/-! ### The plain calculus -/
section
variable {P : Program} {m : Nat} {ops : Array Oper} {Q : Exit → Act → World → Prop} {a0 aV : Act} {I : World → Prop}

def AllP (P : Program) (ops : Array Oper) (aV : Act) (I : World → Prop) (w : World) : List Oper → Prop
  | [] => True
  | o :: os => wpList P ops (PostA aV I) [o] aV w ∧ AllP P ops aV I w os

theorem AllP.get {w : World} {o : Oper} : ∀ {os : List Oper}, AllP P ops aV I w os → o ∈ os → wpList P ops (PostA aV I) [o] aV w
  | [], _, hm => by simp at hm
  | x :: os, h, hm => by
    rcases List.mem_cons.1 hm with rfl | hm
    · exact h.1
    · exact AllP.get h.2 hm

theorem upon_transfer {o : Oper} {a : Act} {K : Act → World → Prop} {r : Result Next}
    (h : o.upon P aV (fun a' w' => a' = aV ∧ I w') (PostA aV I) r)
    (hk : ∀ v w', aV.put o.dst v = aV → I w' → K (a.put o.dst v) w') : o.upon P a K Q r := by
  cases r with
  | ok x w' =>
    cases x <;> simp only [Oper.upon] at h ⊢
    case value v => exact hk v w' h.1 h.2
    case skip => exact hk _ w' h.1 h.2
    case enter f args =>
      refine Calls.mono h fun e w'' he => ?_
      cases e with
      | returned v => exact hk v w'' he.1 he.2
      | panicked c => exact he.elim
      | outgrown => obtain ⟨_, _, he⟩ := he; exact he.elim
    case row row args => exact Rows.mono h fun v w'' he => hk v w'' he.1 he.2
    case defer d =>
      exfalso
      have h1 := congrArg Act.defers h.1
      have h2 : ({ aV with defers := d :: aV.defers }.put o.dst undef).defers = d :: aV.defers := by cases hd : o.dst <;> rfl
      rw [h2] at h1
      have := congrArg List.length h1
      simp at this
  | halt x w' =>
    cases x <;> simp only [Oper.upon] at h ⊢ <;> exact h.elim

theorem tail_sound (hf : RegFacts m aV.tmps.size ops) : ∀ (d k : Nat) (l : Array Bool) (a : Act) (w : World), k + d = ops.size → m ≤ k → l.size = ops.size → (∀ j, j < ops.size → l.getD j true = decide (j < k)) →
    wpList P ops Q (ops.toList.drop k) a w → wpAny P .any ops Q d l a w
  | 0, k, l, a, w, hk, _, hs, hl, h => by
    have hr : Region.ready .any ops l = [] := by
      rw [List.eq_nil_iff_forall_not_mem]
      intro i hi
      obtain ⟨o, ho, h1, _⟩ := mem_ready.1 hi
      have hi' : i < ops.size := (Array.getElem?_eq_some_iff.1 ho).1
      rw [hl i hi'] at h1
      simp at h1; omega
    refine ⟨hr, ?_⟩
    have : ops.toList.drop k = [] := List.drop_eq_nil_iff.2 (by simp; omega)
    rw [this] at h
    exact h
  | d + 1, k, l, a, w, hk, _hm, hs, hl, h => by
    have hks : k < ops.size := by omega
    have hok : ops[k]? = some ops[k] := Array.getElem?_eq_getElem hks
    have hdrop : ops.toList.drop k = ops[k] :: ops.toList.drop (k + 1) := by
      rw [List.drop_eq_getElem_cons (by simpa using hks)]; rfl
    rw [hdrop] at h
    have hset : ∀ j, j < ops.size → (l.setIfInBounds k true).getD j true = decide (j < k + 1) := fun j hj => by
      rw [getD_set (by omega), hl j hj]
      by_cases e : j = k
      · subst e; simp
      · rw [if_neg e]; congr 1; apply propext; omega
    have hb : ∀ k' ∈ binding ops[k], l.getD k' false = true := fun k' hk' => by
      have h1 := hf.up k _ k' hok hk'
      rw [getD_lt (by omega) false true, hl k' (by omega)]
      simpa using h1
    refine ⟨fun h0 => ?_, fun i hi => ?_⟩
    · exfalso
      have : k ∈ Region.ready .any ops l := mem_ready.2 ⟨ops[k], hok, by rw [hl k hks]; simp, hb⟩
      rw [h0] at this
      simp at this
    · obtain ⟨o, ho, h1, h2⟩ := mem_ready.1 hi
      have hi' : i < ops.size := (Array.getElem?_eq_some_iff.1 ho).1
      rw [hl i hi'] at h1
      have hki : k ≤ i := by simpa using h1
      have hik : i = k := by
        rcases Nat.lt_or_ge k i with hlt | hge
        · have h3 := h2 k (hf.tail i o k (by omega) ho hlt)
          rw [getD_lt (by omega) false true, hl k hks] at h3
          simp at h3
        · omega
      subst hik
      unfold wpOp
      rw [hok]
      simp only [wpList] at h
      simp only
      split
      · rename_i hw
        rw [if_pos hw] at h
        exact h.imp (Oper.wp_mono (fun a w h' => tail_sound hf d (i + 1) _ a w (by omega) (by omega) (by simpa using hs) hset h')) id
      · rename_i hw
        rw [if_neg hw] at h
        exact tail_sound hf d (i + 1) _ _ _ (by omega) (by omega) (by simpa using hs) hset h

theorem reg_sound (hf : RegFacts m aV.tmps.size ops) (hV : ∀ t, (∀ i o, i < m → ops[i]? = some o → o.dst ≠ some t) → aV.tmps[t]? = a0.tmps[t]?)
    (hstep : ∀ w, I w → AllP P ops aV I w (ops.toList.take m)) (htail : ∀ w, I w → wpList P ops Q (ops.toList.drop m) aV w) :
    ∀ (d : Nat) (l : Array Bool) (a : Act) (w : World), unlisted ops.size l = d → RegState m ops a0 aV l a → I w → wpAny P .any ops Q d l a w := by
  intro d
  induction d using Nat.strongRecOn with
  | _ d ih =>
    intro l a w hd hs hI
    by_cases hall : ∀ i, i < m → l.getD i true = true
    · obtain rfl := hs.full hV hall
      have hcount := unlisted_from hf.le hs.size hs.late hall
      refine tail_sound hf d m l a w (by have := hf.le; omega) (Nat.le_refl _) hs.size (fun j hj => ?_) (htail w hI)
      by_cases hjm : j < m
      · rw [hall j hjm]; simp [hjm]
      · rw [hs.late j (by omega) hj]; simp [hjm]
    · have hex : ∃ i, i < m ∧ l.getD i true = false := by
        by_cases h : ∃ i, i < m ∧ l.getD i true = false
        · exact h
        · exact absurd (fun i hi => by cases hb : l.getD i true with | true => rfl | false => exact absurd ⟨i, hi, hb⟩ h) hall
      -- the least that is open
      have hleast : ∃ i, i < m ∧ l.getD i true = false ∧ ∀ j, j < i → l.getD j true = true := by
        obtain ⟨i, hi, hb⟩ := hex
        induction i using Nat.strongRecOn with
        | _ i ihi =>
          by_cases h : ∃ j, j < i ∧ l.getD j true = false
          · obtain ⟨j, hj, hjb⟩ := h; exact ihi j hj (by omega) hjb
          · exact ⟨i, hi, hb, fun j hj => by cases hb' : l.getD j true with | true => rfl | false => exact absurd ⟨j, hj, hb'⟩ h⟩
      obtain ⟨i0, hi0, hb0, hmin⟩ := hleast
      have hi0s : i0 < ops.size := by have := hf.le; omega
      have hr0 : i0 ∈ Region.ready .any ops l := mem_ready.2 ⟨ops[i0], Array.getElem?_eq_getElem hi0s, hb0, fun k hk => by
        have := hf.up i0 _ k (Array.getElem?_eq_getElem hi0s) hk
        rw [getD_lt (by rw [hs.size]; omega) false true]
        exact hmin k this⟩
      have hpos : 0 < d := by
        rw [← hd]
        refine Nat.pos_of_ne_zero fun h0 => ?_
        have := unlisted_set (n := ops.size) hi0s (by rw [hs.size]; exact hi0s) hb0
        omega
      obtain ⟨d', rfl⟩ : ∃ d', d = d' + 1 := ⟨d - 1, by omega⟩
      refine ⟨fun h0 => by rw [h0] at hr0; simp at hr0, fun i hi => ?_⟩
      obtain ⟨o, ho, h1, h2⟩ := mem_ready.1 hi
      have his : i < ops.size := (Array.getElem?_eq_some_iff.1 ho).1
      have him : i < m := by
        rcases Nat.lt_or_ge i m with h | h
        · exact h
        · exfalso
          have h3 := h2 i0 (hf.tail i o i0 h ho (by omega))
          rw [getD_lt (by rw [hs.size]; exact hi0s) false true, hb0] at h3
          simp at h3
      have hdec : unlisted ops.size (l.setIfInBounds i true) = d' := by
        have hlt := unlisted_set (n := ops.size) his (by rw [hs.size]; exact his) h1
        have hge : unlisted ops.size l ≤ unlisted ops.size (l.setIfInBounds i true) + 1 := by
          unfold unlisted
          have : ∀ (L : List Nat), L.Nodup → L.countP (fun j => !l.getD j true) ≤ L.countP (fun j => !(l.setIfInBounds i true).getD j true) + 1 := by
            intro L
            induction L with
            | nil => simp
            | cons x L ihL =>
              intro hnd
              rw [List.nodup_cons] at hnd
              have ihL := ihL hnd.2
              rw [List.countP_cons, List.countP_cons, getD_set (by rw [hs.size]; exact his)]
              by_cases e : x = i
              · subst e
                have hsame : L.countP (fun j => !l.getD j true) = L.countP (fun j => !(l.setIfInBounds x true).getD j true) := by
                  apply List.countP_congr
                  intro y hy
                  have hyx : y ≠ x := fun e => hnd.1 (by rw [← e]; exact hy)
                  rw [getD_set (by rw [hs.size]; exact his), if_neg hyx]
                rw [hsame]
                simp
                split <;> omega
              · rw [if_neg e]; split <;> omega
          exact this _ List.nodup_range
        omega
      have hstate : ∀ v, aV.put o.dst v = aV → ∀ w', I w' → wpAny P .any ops Q d' (l.setIfInBounds i true) (a.put o.dst v) w' := fun v hv w' hI' =>
        ih d' (by omega) _ _ _ hdec (hs.next hf him ho hv) hI'
      have hmem : o ∈ ops.toList.take m := by
        have : (ops.toList.take m)[i]? = some o := by rw [List.getElem?_take, if_pos him]; simpa using ho
        exact List.mem_of_getElem? this
      have hop := (hstep w hI).get hmem
      unfold wpOp
      rw [ho]
      simp only
      rw [hs.wanted hf him ho h2]
      simp only [wpList] at hop
      have heval := hs.sees hf hV him ho h2
      obtain ⟨hsel, _⟩ := hf.calm i o him ho
      split
      · rename_i hw
        rw [if_pos hw] at hop
        rcases hop with h3 | ⟨_, _, _, h3⟩
        · refine .inl ?_
          unfold Oper.wp at h3 ⊢
          rw [execOp_congr o hsel heval]
          exact upon_transfer h3 fun v w' hv hI' => hstate v hv w' hI'
        · exact h3.elim
      · rename_i hw
        rw [if_neg hw] at hop
        exact hstate undef hop.1 w hop.2

/-- **THE RULE.** -/
theorem wp_region_phases {id : Nat} {L : List Oper} {a : Act} {w : World} (m : Nat) (vs : List Value) (I : World → Prop) {tm : Array Value}
    (hm : P.follows .mixedOrders = true) (hok : regOk m a.tmps.size L.toArray = true) (htm : fillT (L.take m) vs a.tmps = tm)
    (h0 : I w.drew)
    (hstep : ∀ w', I w' → AllP P L.toArray { tmps := tm, defers := a.defers } I w' (L.take m))
    (htail : ∀ w', I w' → wpList P L.toArray Q (L.drop m) { tmps := tm, defers := a.defers } w') :
    (Code.region id L.toArray true).wp P Q a w := by
  subst htm
  have hsz : (fillT (L.take m) vs a.tmps).size = a.tmps.size := fillT_size _ _ _
  have hf : RegFacts m ({ tmps := fillT (L.take m) vs a.tmps, defers := a.defers } : Act).tmps.size L.toArray := by
    show RegFacts m (fillT (L.take m) vs a.tmps).size L.toArray
    rw [hsz]; exact regFacts hok
  refine wp_region_any hm ?_
  have hcount : unlisted L.toArray.size (Array.replicate L.toArray.size false) = L.toArray.size := by
    have := unlisted_from (m := 0) (N := L.toArray.size) (l := Array.replicate L.toArray.size false) (Nat.zero_le _) (by simp) (fun j _ hj => by
      rw [Array.getD_eq_getD_getElem?, Array.getElem?_eq_getElem (by simpa using hj)]; simp) (fun i hi => by omega)
    simpa using this
  refine reg_sound (a0 := a) hf (fun t ht => ?_) (by simpa using hstep) (by simpa using htail) _ _ _ _ hcount ⟨by simp, fun j _ hj => by
      rw [Array.getD_eq_getD_getElem?, Array.getElem?_eq_getElem (by simpa using hj)]; simp, rfl, hsz.symm, fun i o d him ho hl _ => ?_, fun t _ => rfl⟩ h0
  · refine fillT_other _ _ _ fun o ho e => ?_
    obtain ⟨j, hj⟩ := List.mem_iff_getElem?.1 ho
    rw [List.getElem?_take] at hj
    split at hj
    · exact ht j o (by assumption) (by simpa using hj) e
    · simp at hj
  · exfalso
    have his : i < L.toArray.size := (Array.getElem?_eq_some_iff.1 ho).1
    rw [Array.getD_eq_getD_getElem?, Array.getElem?_eq_getElem (by simpa using his)] at hl
    simp at hl
end
end Go.Proofs.Ytknibnbepmdapaa
