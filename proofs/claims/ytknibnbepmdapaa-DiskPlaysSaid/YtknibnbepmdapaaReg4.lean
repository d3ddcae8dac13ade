/-
A region that draws its order of evaluation, walked once: its first m operations each yield their designated value in every world that meets an invariant; the rest stand in a forced order behind them. In the plain calculus and in the fenced one.
-/
import Derived.OrdersIn
import Derived.RegionTactic
import Derived.TacticsIn
import Derived.Below
namespace Go.Proofs.Ytknibnbepmdapaa
open Go

def PostA (aV : Act) (I : World → Prop) : Exit → Act → World → Prop
  | .normal, a, w => a = aV ∧ I w
  | _, _, _ => False

def binding (o : Oper) : List Nat := (o.after.toList.filter fun e => Region.binds .any e).map (·.on)

def regOp (m size : Nat) (ops : Array Oper) (i : Nat) (o : Oper) : Bool :=
  (match o.op with | .select _ _ => false | .defer _ => false | _ => true) &&
  (match o.dst with | some d => decide (d < size) | none => true) &&
  ((List.range m).all fun j => j == i || (match o.dst, (ops[j]?).bind (·.dst) with | some d, some d' => d != d' | _, _ => true)) &&
  ((List.range m).all fun j => (binding o).contains j || (match (ops[j]?).bind (·.dst) with
    | some d => o.op.operands.toList.all fun | .tmp t => t != d | _ => true
    | none => true)) &&
  (match o.guard with | none => true | some (j, _) => decide (j < m) && (binding o).contains j && ((ops[j]?).bind (·.dst)).isSome) &&
  ((binding o).all fun k => decide (k < i))

def regOk (m size : Nat) (ops : Array Oper) : Bool :=
  decide (m ≤ ops.size) &&
  ((List.range m).all fun i => match ops[i]? with | some o => regOp m size ops i o | none => false) &&
  ((List.range ops.size).all fun i => decide (i < m) || (match ops[i]? with
    | some o => (List.range i).all (fun k => (binding o).contains k) && (binding o).all (fun k => decide (k < i))
    | none => false))

def fillT : List Oper → List Value → Array Value → Array Value
  | o :: os, v :: vs, t => fillT os vs (match o.dst with | some d => t.setIfInBounds d v | none => t)
  | _, _, t => t

theorem fillT_size : ∀ (os : List Oper) (vs : List Value) (t : Array Value), (fillT os vs t).size = t.size
  | [], _, _ => rfl
  | _ :: _, [], _ => rfl
  | o :: os, v :: vs, t => by
    unfold fillT
    rw [fillT_size]
    split <;> simp

theorem fillT_other {x : Nat} : ∀ (os : List Oper) (vs : List Value) (t : Array Value), (∀ o ∈ os, o.dst ≠ some x) → (fillT os vs t)[x]? = t[x]?
  | [], _, _, _ => rfl
  | _ :: _, [], _, _ => rfl
  | o :: os, v :: vs, t, h => by
    unfold fillT
    rw [fillT_other os vs _ fun o' ho' => h o' (List.mem_cons_of_mem _ ho')]
    have h0 := h o List.mem_cons_self
    split
    · rename_i d hd
      rw [hd] at h0
      exact Array.getElem?_setIfInBounds_ne (fun e => h0 (by rw [e]))
    · rfl

theorem countP_lt {α : Type} {p q : α → Bool} (hpq : ∀ x, q x = true → p x = true) {i : α} (hp : p i = true) (hq : q i = false) : ∀ (l : List α), i ∈ l → l.countP q < l.countP p
  | [], h => by simp at h
  | x :: l, h => by
    have hle : l.countP q ≤ l.countP p := List.countP_mono_left fun x _ hx => hpq x hx
    rw [List.countP_cons, List.countP_cons]
    rcases List.mem_cons.1 h with rfl | h
    · simp [hp, hq]; omega
    · have := countP_lt hpq hp hq l h
      cases hqx : q x with
      | false => simp; omega
      | true => simp [hpq x hqx]; omega

def unlisted (n : Nat) (l : Array Bool) : Nat := (List.range n).countP fun j => !l.getD j true

theorem getD_set {l : Array Bool} {i j : Nat} (h : i < l.size) : (l.setIfInBounds i true).getD j true = (if j = i then true else l.getD j true) := by
  rw [Array.getD_eq_getD_getElem?, Array.getD_eq_getD_getElem?, Array.getElem?_setIfInBounds]
  by_cases e : i = j
  · subst e; simp [h]
  · rw [if_neg e, if_neg (fun h => e h.symm)]

theorem unlisted_set {n i : Nat} {l : Array Bool} (hi : i < n) (hl : i < l.size) (h : l.getD i true = false) : unlisted n (l.setIfInBounds i true) < unlisted n l := by
  unfold unlisted
  refine countP_lt (i := i) (fun x hx => ?_) (by rw [h]; rfl) (by rw [getD_set hl, if_pos rfl]; rfl) _ (List.mem_range.2 hi)
  rw [getD_set hl] at hx
  split at hx
  · simp at hx
  · exact hx

theorem unlisted_zero {n : Nat} {l : Array Bool} (h : ∀ j, j < n → l.getD j true = true) : unlisted n l = 0 := by
  unfold unlisted
  rw [List.countP_eq_zero]
  intro j hj
  rw [h j (List.mem_range.1 hj)]
  simp

theorem mem_binding {o : Oper} {k : Nat} : k ∈ binding o ↔ ∃ e ∈ o.after, Region.binds .any e = true ∧ e.on = k := by
  unfold binding
  simp only [List.mem_map, List.mem_filter, Array.mem_toList_iff]
  exact ⟨fun ⟨e, h, he⟩ => ⟨e, h.1, h.2, he⟩, fun ⟨e, h1, h2, h3⟩ => ⟨e, ⟨h1, h2⟩, h3⟩⟩

theorem mem_ready {ops : Array Oper} {l : Array Bool} {i : Nat} : i ∈ Region.ready .any ops l ↔ ∃ o, ops[i]? = some o ∧ l.getD i true = false ∧ ∀ k ∈ binding o, l.getD k false = true := by
  unfold Region.ready
  rw [List.mem_filter, List.mem_range, Bool.and_eq_true, Bool.not_eq_true']
  constructor
  · rintro ⟨hi, h1, h2⟩
    refine ⟨ops[i], Array.getElem?_eq_getElem hi, h1, fun k hk => ?_⟩
    rw [Array.getElem?_eq_getElem hi] at h2
    simp only [Option.map_some, Option.getD_some, Array.all_eq_true] at h2
    obtain ⟨e, he, hb, rfl⟩ := mem_binding.1 hk
    obtain ⟨x, hx, rfl⟩ := Array.mem_iff_getElem.1 he
    have := h2 x hx
    rw [hb] at this
    simpa using this
  · rintro ⟨o, ho, h1, h2⟩
    obtain ⟨hi, rfl⟩ := Array.getElem?_eq_some_iff.1 ho
    refine ⟨hi, h1, ?_⟩
    rw [ho]
    simp only [Option.map_some, Option.getD_some, Array.all_eq_true]
    intro x hx
    cases hb : Region.binds .any ops[i].after[x] with
    | false => rfl
    | true => simpa [hb] using h2 _ (mem_binding.2 ⟨_, Array.getElem_mem hx, hb, rfl⟩)

structure RegFacts (m size : Nat) (ops : Array Oper) : Prop where
  le : m ≤ ops.size
  calm : ∀ i o, i < m → ops[i]? = some o → (∀ cs b, o.op ≠ .select cs b) ∧ ∀ c, o.op ≠ .defer c
  dst : ∀ i o d, i < m → ops[i]? = some o → o.dst = some d → d < size
  apart : ∀ i j o o' d, i < m → j < m → j ≠ i → ops[i]? = some o → ops[j]? = some o' → o.dst = some d → o'.dst ≠ some d
  needs : ∀ i j o o' t, i < m → j < m → ops[i]? = some o → ops[j]? = some o' → o'.dst = some t → .tmp t ∈ o.op.operands → j ∈ binding o
  guard : ∀ i o j b, i < m → ops[i]? = some o → o.guard = some (j, b) → j < m ∧ j ∈ binding o
  up : ∀ i o k, ops[i]? = some o → k ∈ binding o → k < i
  tail : ∀ i o k, m ≤ i → ops[i]? = some o → k < i → k ∈ binding o

theorem regFacts {m size : Nat} {ops : Array Oper} (h : regOk m size ops = true) : RegFacts m size ops := by
  unfold regOk at h
  simp only [Bool.and_eq_true, decide_eq_true_eq, List.all_eq_true, List.mem_range, Bool.or_eq_true] at h
  obtain ⟨⟨hle, hA⟩, hT⟩ := h
  have hop : ∀ i o, i < m → ops[i]? = some o → regOp m size ops i o = true := fun i o hi ho => by
    have := hA i hi; rw [ho] at this; exact this
  have hparts : ∀ i o, i < m → ops[i]? = some o → _ := fun i o hi ho => by
    have := hop i o hi ho
    unfold regOp at this
    simp only [Bool.and_eq_true] at this
    exact this
  refine ⟨hle, ?_, ?_, ?_, ?_, ?_, ?_, ?_⟩
  · intro i o hi ho
    obtain ⟨⟨⟨⟨⟨h1, _⟩, _⟩, _⟩, _⟩, _⟩ := hparts i o hi ho
    constructor
    · intro cs b e; rw [e] at h1; simp at h1
    · intro c e; rw [e] at h1; simp at h1
  · intro i o d hi ho hd
    obtain ⟨⟨⟨⟨⟨_, h1⟩, _⟩, _⟩, _⟩, _⟩ := hparts i o hi ho
    rw [hd] at h1; simpa using h1
  · intro i j o o' d hi hj hij ho ho' hd hd'
    obtain ⟨⟨⟨⟨⟨_, _⟩, h1⟩, _⟩, _⟩, _⟩ := hparts i o hi ho
    have := List.all_eq_true.1 h1 j (List.mem_range.2 hj)
    rw [ho', hd] at this
    simp [hd', hij] at this
  · intro i j o o' t hi hj ho ho' ht hx
    obtain ⟨⟨⟨⟨⟨_, _⟩, _⟩, h1⟩, _⟩, _⟩ := hparts i o hi ho
    have := List.all_eq_true.1 h1 j (List.mem_range.2 hj)
    rw [ho'] at this
    simp only [Option.bind_some, ht, Bool.or_eq_true, List.contains_iff_mem, List.all_eq_true] at this
    rcases this with this | this
    · exact this
    · have := this (.tmp t) (Array.mem_toList_iff.2 hx)
      simp at this
  · intro i o j b hi ho hg
    obtain ⟨⟨⟨⟨⟨_, _⟩, _⟩, _⟩, h1⟩, _⟩ := hparts i o hi ho
    rw [hg] at h1
    simp only [Bool.and_eq_true, decide_eq_true_eq, List.contains_iff_mem] at h1
    exact ⟨h1.1.1, h1.1.2⟩
  · intro i o k ho hk
    by_cases hi : i < m
    · obtain ⟨_, h1⟩ := hparts i o hi ho
      have := List.all_eq_true.1 h1 k hk
      simpa using this
    · have hlt : i < ops.size := (Array.getElem?_eq_some_iff.1 ho).1
      rcases hT i hlt with h1 | h1
      · omega
      · rw [ho] at h1
        simp only [Bool.and_eq_true, List.all_eq_true, decide_eq_true_eq] at h1
        exact h1.2 k hk
  · intro i o k hi ho hk
    have hlt : i < ops.size := (Array.getElem?_eq_some_iff.1 ho).1
    rcases hT i hlt with h1 | h1
    · omega
    · rw [ho] at h1
      simp only [Bool.and_eq_true, List.all_eq_true, List.mem_range, List.contains_iff_mem] at h1
      exact h1.1 k hk

/-- What the state of a run through the first m operations looks like. -/
structure RegState (m : Nat) (ops : Array Oper) (a0 aV : Act) (l : Array Bool) (a : Act) : Prop where
  size : l.size = ops.size
  late : ∀ j, m ≤ j → j < ops.size → l.getD j true = false
  defers : a.defers = aV.defers
  tsize : a.tmps.size = aV.tmps.size
  done : ∀ i o d, i < m → ops[i]? = some o → l.getD i true = true → o.dst = some d → a.tmps[d]? = aV.tmps[d]?
  open_ : ∀ t, (∀ i o, i < m → ops[i]? = some o → l.getD i true = true → o.dst ≠ some t) → a.tmps[t]? = a0.tmps[t]?

theorem getD_false {l : Array Bool} {k : Nat} (h : l.getD k false = true) : l.getD k true = true := by
  rw [Array.getD_eq_getD_getElem?] at h ⊢
  cases hk : l[k]? with
  | none => rfl
  | some b => rw [hk] at h; exact h

theorem getD_lt {l : Array Bool} {k : Nat} (h : k < l.size) (b b' : Bool) : l.getD k b = l.getD k b' := by
  rw [Array.getD_eq_getD_getElem?, Array.getD_eq_getD_getElem?, Array.getElem?_eq_getElem h]
  rfl

section
variable {m : Nat} {ops : Array Oper} {a0 aV a : Act} {l : Array Bool}

theorem RegState.sees (hs : RegState m ops a0 aV l a) (hf : RegFacts m aV.tmps.size ops) (hV : ∀ t, (∀ i o, i < m → ops[i]? = some o → o.dst ≠ some t) → aV.tmps[t]? = a0.tmps[t]?)
    {i : Nat} {o : Oper} (hi : i < m) (ho : ops[i]? = some o) (hb : ∀ k ∈ binding o, l.getD k false = true) : ∀ x ∈ o.op.operands, a.eval x = aV.eval x := by
  intro x hx
  cases x with
  | tmp t =>
    show a.tmps.getD t undef = aV.tmps.getD t undef
    rw [Array.getD_eq_getD_getElem?, Array.getD_eq_getD_getElem?]
    congr 1
    by_cases h : ∃ j o', j < m ∧ ops[j]? = some o' ∧ o'.dst = some t
    · obtain ⟨j, o', hj, ho', ht⟩ := h
      exact hs.done j o' t hj ho' (getD_false (hb j (hf.needs i j o o' t hi hj ho ho' ht hx))) ht
    · have h0 : ∀ i o, i < m → ops[i]? = some o → o.dst ≠ some t := fun i o hi ho e => h ⟨i, o, hi, ho, e⟩
      rw [hs.open_ t (fun i o hi ho _ => h0 i o hi ho), hV t h0]
  | const v => rfl
  | global g => rfl
  | func f => rfl

theorem RegState.wanted (hs : RegState m ops a0 aV l a) (hf : RegFacts m aV.tmps.size ops) {i : Nat} {o : Oper} (hi : i < m) (ho : ops[i]? = some o) (hb : ∀ k ∈ binding o, l.getD k false = true) :
    Region.wanted o (yielded ops a.tmps) = Region.wanted o (yielded ops aV.tmps) := by
  unfold Region.wanted
  cases hg : o.guard with
  | none => rfl
  | some jb =>
    obtain ⟨j, b⟩ := jb
    obtain ⟨hj, hjb⟩ := hf.guard i o j b hi ho hg
    have : yielded ops a.tmps j = yielded ops aV.tmps j := by
      unfold yielded
      cases hoj : ops[j]? with
      | none => rfl
      | some o' =>
        cases hd : o'.dst with
        | none => simp [hd]
        | some d => simp only [Option.bind_some, hd]; rw [hs.done j o' d hj hoj (getD_false (hb j hjb)) hd]
    simp only [this]

theorem RegState.next (hs : RegState m ops a0 aV l a) (hf : RegFacts m aV.tmps.size ops) {i : Nat} {o : Oper} {v : Value} (hi : i < m) (ho : ops[i]? = some o) (hv : aV.put o.dst v = aV) :
    RegState m ops a0 aV (l.setIfInBounds i true) (a.put o.dst v) := by
  have hlt : i < l.size := by rw [hs.size]; exact (Array.getElem?_eq_some_iff.1 ho).1
  have hput : ∀ d, o.dst = some d → (a.put o.dst v).tmps = a.tmps.setIfInBounds d v := fun d hd => by rw [hd]; rfl
  have hputn : o.dst = none → (a.put o.dst v).tmps = a.tmps := fun hd => by rw [hd]; rfl
  have hpd : (a.put o.dst v).defers = a.defers := by cases hd : o.dst <;> rfl
  refine ⟨by rw [Array.size_setIfInBounds]; exact hs.size, fun j hj hjs => ?_, by rw [hpd]; exact hs.defers, ?_, ?_, ?_⟩
  · rw [getD_set hlt, if_neg (by omega)]; exact hs.late j hj hjs
  · cases hd : o.dst with
    | none => exact hs.tsize
    | some d => show (a.tmps.setIfInBounds d v).size = _; rw [Array.size_setIfInBounds]; exact hs.tsize
  · intro j oj d hj hoj hlj hdj
    by_cases e : j = i
    · subst e
      rw [ho] at hoj; cases hoj
      rw [hput d hdj, Array.getElem?_setIfInBounds_self]
      have h1 : aV.tmps.setIfInBounds d v = aV.tmps := by have := congrArg Act.tmps hv; rw [hdj] at this; exact this
      rw [← h1, Array.getElem?_setIfInBounds_self, hs.tsize]
    · rw [getD_set hlt, if_neg e] at hlj
      have h0 := hs.done j oj d hj hoj hlj hdj
      cases hd : o.dst with
      | none => exact h0
      | some d' =>
        show (a.tmps.setIfInBounds d' v)[d]? = _
        rw [Array.getElem?_setIfInBounds_ne]
        · exact h0
        · rintro rfl
          exact hf.apart j i oj o d' hj hi (fun h => e h.symm) hoj ho hdj hd
  · intro t ht
    have h0 : a.tmps[t]? = a0.tmps[t]? := hs.open_ t fun j oj hj hoj hlj => ht j oj hj hoj (by rw [getD_set hlt]; split; rfl; exact hlj)
    have h1 : o.dst ≠ some t := ht i o hi ho (by rw [getD_set hlt, if_pos rfl])
    cases hd : o.dst with
    | none => exact h0
    | some d =>
      show (a.tmps.setIfInBounds d v)[t]? = _
      rw [Array.getElem?_setIfInBounds_ne (fun e => h1 (by rw [hd, e]))]
      exact h0

/-- Behind all of the first m operations the frame is the designated one. -/
theorem RegState.full (hs : RegState m ops a0 aV l a) (hV : ∀ t, (∀ i o, i < m → ops[i]? = some o → o.dst ≠ some t) → aV.tmps[t]? = a0.tmps[t]?)
    (hl : ∀ i, i < m → l.getD i true = true) : a = aV := by
  have ht : a.tmps = aV.tmps := by
    apply Array.ext_getElem?
    intro t
    by_cases h : ∃ j o', j < m ∧ ops[j]? = some o' ∧ o'.dst = some t
    · obtain ⟨j, o', hj, ho', hd⟩ := h
      exact hs.done j o' t hj ho' (hl j hj) hd
    · have h0 : ∀ i o, i < m → ops[i]? = some o → o.dst ≠ some t := fun i o hi ho e => h ⟨i, o, hi, ho, e⟩
      rw [hs.open_ t (fun i o hi ho _ => h0 i o hi ho), hV t h0]
  have hd := hs.defers
  obtain ⟨t, d⟩ := a
  obtain ⟨t', d'⟩ := aV
  simp only at ht hd
  rw [ht, hd]
end

/-! ### The fenced calculus -/
section
variable {F : Fence} {n : Nat} {P : Program} {m : Nat} {ops : Array Oper} {Q : Exit → Act → World → Prop} {a0 aV : Act} {I : World → Prop}

def AllIn (F : Fence) (n : Nat) (P : Program) (ops : Array Oper) (aV : Act) (I : World → Prop) (w : World) : List Oper → Prop
  | [] => True
  | o :: os => wpListIn F n P ops (PostA aV I) [o] aV w ∧ AllIn F n P ops aV I w os

theorem AllIn.get {w : World} {o : Oper} : ∀ {os : List Oper}, AllIn F n P ops aV I w os → o ∈ os → wpListIn F n P ops (PostA aV I) [o] aV w
  | [], _, hm => by simp at hm
  | x :: os, h, hm => by
    rcases List.mem_cons.1 hm with rfl | hm
    · exact h.1
    · exact AllIn.get h.2 hm

theorem upon_transferIn {o : Oper} {a : Act} {K : Act → World → Prop} {r : Result Next}
    (h : o.uponIn F n P aV (fun a' w' => a' = aV ∧ I w') (PostA aV I) r)
    (hk : ∀ v w', aV.put o.dst v = aV → I w' → K (a.put o.dst v) w') : o.uponIn F n P a K Q r := by
  cases r with
  | ok x w' =>
    cases x <;> simp only [Oper.uponIn] at h ⊢
    case value v => exact hk v w' h.1 h.2
    case skip => exact hk _ w' h.1 h.2
    case enter f args =>
      refine ⟨h.1, h.2.mono fun e w'' he => ?_⟩
      cases e with
      | returned v => exact hk v w'' he.1 he.2
      | panicked c => exact he.elim
      | outgrown => obtain ⟨_, _, he⟩ := he; exact he.elim
    case row row args => exact ⟨h.1, h.2.mono fun v w'' he => hk v w'' he.1 he.2⟩
    case round l f tmps assign body =>
      refine ⟨h.1, h.2.mono fun e w'' he => ?_⟩
      cases e with
      | returned v => exact hk v w'' he.1 he.2
      | panicked c => exact he.elim
      | outgrown => obtain ⟨_, _, he⟩ := he; exact he.elim
    case defer d =>
      exfalso
      have h1 := congrArg Act.defers h.1
      have h2 : ({ aV with defers := d :: aV.defers }.put o.dst undef).defers = d :: aV.defers := by cases hd : o.dst <;> rfl
      rw [h2] at h1
      have := congrArg List.length h1
      simp at this
  | halt x w' =>
    cases x <;> simp only [Oper.uponIn] at h ⊢ <;> exact h.elim

theorem tail_soundIn (hf : RegFacts m aV.tmps.size ops) : ∀ (d k : Nat) (l : Array Bool) (a : Act) (w : World), k + d = ops.size → m ≤ k → l.size = ops.size → (∀ j, j < ops.size → l.getD j true = decide (j < k)) →
    wpListIn F n P ops Q (ops.toList.drop k) a w → wpAnyIn F n P .any ops Q d l a w
  | 0, k, l, a, w, hk, _, hs, hl, h => by
    have hr : Region.ready .any ops l = [] := by
      rw [List.eq_nil_iff_forall_not_mem]
      intro i hi
      obtain ⟨o, ho, h1, _⟩ := mem_ready.1 hi
      have hi' : i < ops.size := (Array.getElem?_eq_some_iff.1 ho).1
      rw [hl i hi'] at h1
      simp at h1; omega
    refine ⟨hr, ?_⟩
    have : ops.toList.drop k = [] := List.drop_eq_nil_iff.2 (by simp; omega)
    rw [this] at h
    exact h
  | d + 1, k, l, a, w, hk, _hm, hs, hl, h => by
    have hks : k < ops.size := by omega
    have hok : ops[k]? = some ops[k] := Array.getElem?_eq_getElem hks
    have hdrop : ops.toList.drop k = ops[k] :: ops.toList.drop (k + 1) := by
      rw [List.drop_eq_getElem_cons (by simpa using hks)]; rfl
    rw [hdrop] at h
    have hset : ∀ j, j < ops.size → (l.setIfInBounds k true).getD j true = decide (j < k + 1) := fun j hj => by
      rw [getD_set (by omega), hl j hj]
      by_cases e : j = k
      · subst e; simp
      · rw [if_neg e]; congr 1; apply propext; omega
    have hb : ∀ k' ∈ binding ops[k], l.getD k' false = true := fun k' hk' => by
      have h1 := hf.up k _ k' hok hk'
      rw [getD_lt (by omega) false true, hl k' (by omega)]
      simpa using h1
    refine ⟨fun h0 => ?_, fun i hi => ?_⟩
    · exfalso
      have : k ∈ Region.ready .any ops l := mem_ready.2 ⟨ops[k], hok, by rw [hl k hks]; simp, hb⟩
      rw [h0] at this
      simp at this
    · obtain ⟨o, ho, h1, h2⟩ := mem_ready.1 hi
      have hi' : i < ops.size := (Array.getElem?_eq_some_iff.1 ho).1
      rw [hl i hi'] at h1
      have hki : k ≤ i := by simpa using h1
      have hik : i = k := by
        rcases Nat.lt_or_ge k i with hlt | hge
        · have h3 := h2 k (hf.tail i o k (by omega) ho hlt)
          rw [getD_lt (by omega) false true, hl k hks] at h3
          simp at h3
        · omega
      subst hik
      unfold wpOpIn
      rw [hok]
      simp only [wpListIn] at h
      simp only
      split
      · rename_i hw
        rw [if_pos hw] at h
        exact Oper.wpIn_mono (fun a w h' => tail_soundIn hf d (i + 1) _ a w (by omega) (by omega) (by simpa using hs) hset h') h
      · rename_i hw
        rw [if_neg hw] at h
        exact ⟨h.1, tail_soundIn hf d (i + 1) _ _ _ (by omega) (by omega) (by simpa using hs) hset h.2⟩

theorem unlisted_from {m N : Nat} {l : Array Bool} (hmN : m ≤ N) (hs : l.size = N) (h1 : ∀ j, m ≤ j → j < N → l.getD j true = false) (h2 : ∀ i, i < m → l.getD i true = true) : unlisted N l = N - m := by
  obtain ⟨d, rfl⟩ : ∃ d, N = m + d := ⟨N - m, by omega⟩
  have key : ∀ d', d' ≤ d → unlisted (m + d') l = d' := by
    intro d'
    induction d' with
    | zero => intro _; exact unlisted_zero (n := m + 0) fun j hj => h2 j (by omega)
    | succ d' ih =>
      intro hd
      have := ih (by omega)
      unfold unlisted at this ⊢
      rw [show m + (d' + 1) = (m + d') + 1 by omega, List.range_succ, List.countP_append, this, List.countP_singleton, h1 (m + d') (by omega) (by omega)]
      rfl
  rw [key d (Nat.le_refl _)]; omega

theorem reg_soundIn (hf : RegFacts m aV.tmps.size ops) (hV : ∀ t, (∀ i o, i < m → ops[i]? = some o → o.dst ≠ some t) → aV.tmps[t]? = a0.tmps[t]?)
    (hstep : ∀ w, I w → AllIn F n P ops aV I w (ops.toList.take m)) (htail : ∀ w, I w → wpListIn F n P ops Q (ops.toList.drop m) aV w) :
    ∀ (d : Nat) (l : Array Bool) (a : Act) (w : World), unlisted ops.size l = d → RegState m ops a0 aV l a → I w → wpAnyIn F n P .any ops Q d l a w := by
  intro d
  induction d using Nat.strongRecOn with
  | _ d ih =>
    intro l a w hd hs hI
    by_cases hall : ∀ i, i < m → l.getD i true = true
    · obtain rfl := hs.full hV hall
      have hcount := unlisted_from hf.le hs.size hs.late hall
      refine tail_soundIn hf d m l a w (by have := hf.le; omega) (Nat.le_refl _) hs.size (fun j hj => ?_) (htail w hI)
      by_cases hjm : j < m
      · rw [hall j hjm]; simp [hjm]
      · rw [hs.late j (by omega) hj]; simp [hjm]
    · have hex : ∃ i, i < m ∧ l.getD i true = false := by
        by_cases h : ∃ i, i < m ∧ l.getD i true = false
        · exact h
        · exact absurd (fun i hi => by cases hb : l.getD i true with | true => rfl | false => exact absurd ⟨i, hi, hb⟩ h) hall
      -- the least that is open
      have hleast : ∃ i, i < m ∧ l.getD i true = false ∧ ∀ j, j < i → l.getD j true = true := by
        obtain ⟨i, hi, hb⟩ := hex
        induction i using Nat.strongRecOn with
        | _ i ihi =>
          by_cases h : ∃ j, j < i ∧ l.getD j true = false
          · obtain ⟨j, hj, hjb⟩ := h; exact ihi j hj (by omega) hjb
          · exact ⟨i, hi, hb, fun j hj => by cases hb' : l.getD j true with | true => rfl | false => exact absurd ⟨j, hj, hb'⟩ h⟩
      obtain ⟨i0, hi0, hb0, hmin⟩ := hleast
      have hi0s : i0 < ops.size := by have := hf.le; omega
      have hr0 : i0 ∈ Region.ready .any ops l := mem_ready.2 ⟨ops[i0], Array.getElem?_eq_getElem hi0s, hb0, fun k hk => by
        have := hf.up i0 _ k (Array.getElem?_eq_getElem hi0s) hk
        rw [getD_lt (by rw [hs.size]; omega) false true]
        exact hmin k this⟩
      have hpos : 0 < d := by
        rw [← hd]
        refine Nat.pos_of_ne_zero fun h0 => ?_
        have := unlisted_set (n := ops.size) hi0s (by rw [hs.size]; exact hi0s) hb0
        omega
      obtain ⟨d', rfl⟩ : ∃ d', d = d' + 1 := ⟨d - 1, by omega⟩
      refine ⟨fun h0 => by rw [h0] at hr0; simp at hr0, fun i hi => ?_⟩
      obtain ⟨o, ho, h1, h2⟩ := mem_ready.1 hi
      have his : i < ops.size := (Array.getElem?_eq_some_iff.1 ho).1
      have him : i < m := by
        rcases Nat.lt_or_ge i m with h | h
        · exact h
        · exfalso
          have h3 := h2 i0 (hf.tail i o i0 h ho (by omega))
          rw [getD_lt (by rw [hs.size]; exact hi0s) false true, hb0] at h3
          simp at h3
      have hdec : unlisted ops.size (l.setIfInBounds i true) = d' := by
        have hlt := unlisted_set (n := ops.size) his (by rw [hs.size]; exact his) h1
        have hge : unlisted ops.size l ≤ unlisted ops.size (l.setIfInBounds i true) + 1 := by
          unfold unlisted
          have : ∀ (L : List Nat), L.Nodup → L.countP (fun j => !l.getD j true) ≤ L.countP (fun j => !(l.setIfInBounds i true).getD j true) + 1 := by
            intro L
            induction L with
            | nil => simp
            | cons x L ihL =>
              intro hnd
              rw [List.nodup_cons] at hnd
              have ihL := ihL hnd.2
              rw [List.countP_cons, List.countP_cons, getD_set (by rw [hs.size]; exact his)]
              by_cases e : x = i
              · subst e
                have hsame : L.countP (fun j => !l.getD j true) = L.countP (fun j => !(l.setIfInBounds x true).getD j true) := by
                  apply List.countP_congr
                  intro y hy
                  have hyx : y ≠ x := fun e => hnd.1 (by rw [← e]; exact hy)
                  rw [getD_set (by rw [hs.size]; exact his), if_neg hyx]
                rw [hsame]
                simp
                split <;> omega
              · rw [if_neg e]; split <;> omega
          exact this _ List.nodup_range
        omega
      have hstate : ∀ v, aV.put o.dst v = aV → ∀ w', I w' → wpAnyIn F n P .any ops Q d' (l.setIfInBounds i true) (a.put o.dst v) w' := fun v hv w' hI' =>
        ih d' (by omega) _ _ _ hdec (hs.next hf him ho hv) hI'
      have hmem : o ∈ ops.toList.take m := by
        have : (ops.toList.take m)[i]? = some o := by rw [List.getElem?_take, if_pos him]; simpa using ho
        exact List.mem_of_getElem? this
      have hop := (hstep w hI).get hmem
      unfold wpOpIn
      rw [ho]
      simp only
      rw [hs.wanted hf him ho h2]
      simp only [wpListIn] at hop
      have heval := hs.sees hf hV him ho h2
      obtain ⟨hsel, hdef⟩ := hf.calm i o him ho
      split
      · rename_i hw
        rw [if_pos hw] at hop
        refine ⟨fun f hfa => hop.1 f (by rw [← about_congr o w heval]; exact hfa), ?_⟩
        have h3 := hop.2
        rw [Oper.semAt_eq _ _ _ hdef] at h3 ⊢
        rw [execOp_congr o hsel heval]
        exact upon_transferIn h3 fun v w' hv hI' => hstate v hv w' hI'
      · rename_i hw
        rw [if_neg hw] at hop
        exact ⟨fun f hfa => hop.1 f (by rw [← about_congr o w heval]; exact hfa), hstate undef hop.2.1 w hop.2.2⟩

/-- **THE RULE.** -/
theorem wpIn_region_phases {id : Nat} {L : List Oper} {a : Act} {w : World} (m : Nat) (vs : List Value) (I : World → Prop) {tm : Array Value}
    (hm : P.follows .mixedOrders = true) (hok : regOk m a.tmps.size L.toArray = true) (htm : fillT (L.take m) vs a.tmps = tm)
    (h0 : I w.drew)
    (hstep : ∀ w', I w' → AllIn F n P L.toArray { tmps := tm, defers := a.defers } I w' (L.take m))
    (htail : ∀ w', I w' → wpListIn F n P L.toArray Q (L.drop m) { tmps := tm, defers := a.defers } w') :
    (Code.region id L.toArray true).wpIn F n P Q a w := by
  subst htm
  have hsz : (fillT (L.take m) vs a.tmps).size = a.tmps.size := fillT_size _ _ _
  have hf : RegFacts m ({ tmps := fillT (L.take m) vs a.tmps, defers := a.defers } : Act).tmps.size L.toArray := by
    show RegFacts m (fillT (L.take m) vs a.tmps).size L.toArray
    rw [hsz]; exact regFacts hok
  refine wpIn_region_any hm ?_
  have hcount : unlisted L.toArray.size (Array.replicate L.toArray.size false) = L.toArray.size := by
    have := unlisted_from (m := 0) (N := L.toArray.size) (l := Array.replicate L.toArray.size false) (Nat.zero_le _) (by simp) (fun j _ hj => by
      rw [Array.getD_eq_getD_getElem?, Array.getElem?_eq_getElem (by simpa using hj)]; simp) (fun i hi => by omega)
    simpa using this
  refine reg_soundIn (a0 := a) hf (fun t ht => ?_) (by simpa using hstep) (by simpa using htail) _ _ _ _ hcount ⟨by simp, fun j _ hj => by
      rw [Array.getD_eq_getD_getElem?, Array.getElem?_eq_getElem (by simpa using hj)]; simp, rfl, hsz.symm, fun i o d him ho hl _ => ?_, fun t _ => rfl⟩ h0
  · refine fillT_other _ _ _ fun o ho e => ?_
    obtain ⟨j, hj⟩ := List.mem_iff_getElem?.1 ho
    rw [List.getElem?_take] at hj
    split at hj
    · exact ht j o (by assumption) (by simpa using hj) e
    · simp at hj
  · exfalso
    have his : i < L.toArray.size := (Array.getElem?_eq_some_iff.1 ho).1
    rw [Array.getD_eq_getD_getElem?, Array.getElem?_eq_getElem (by simpa using his)] at hl
    simp at hl
end
/-! ### The plain calculus -/
section
variable {P : Program} {m : Nat} {ops : Array Oper} {Q : Exit → Act → World → Prop} {a0 aV : Act} {I : World → Prop}

def AllP (P : Program) (ops : Array Oper) (aV : Act) (I : World → Prop) (w : World) : List Oper → Prop
  | [] => True
  | o :: os => wpList P ops (PostA aV I) [o] aV w ∧ AllP P ops aV I w os

theorem AllP.get {w : World} {o : Oper} : ∀ {os : List Oper}, AllP P ops aV I w os → o ∈ os → wpList P ops (PostA aV I) [o] aV w
  | [], _, hm => by simp at hm
  | x :: os, h, hm => by
    rcases List.mem_cons.1 hm with rfl | hm
    · exact h.1
    · exact AllP.get h.2 hm

theorem upon_transfer {o : Oper} {a : Act} {K : Act → World → Prop} {r : Result Next}
    (h : o.upon P aV (fun a' w' => a' = aV ∧ I w') (PostA aV I) r)
    (hk : ∀ v w', aV.put o.dst v = aV → I w' → K (a.put o.dst v) w') : o.upon P a K Q r := by
  cases r with
  | ok x w' =>
    cases x <;> simp only [Oper.upon] at h ⊢
    case value v => exact hk v w' h.1 h.2
    case skip => exact hk _ w' h.1 h.2
    case enter f args =>
      refine Calls.mono h fun e w'' he => ?_
      cases e with
      | returned v => exact hk v w'' he.1 he.2
      | panicked c => exact he.elim
      | outgrown => obtain ⟨_, _, he⟩ := he; exact he.elim
    case row row args => exact Rows.mono h fun v w'' he => hk v w'' he.1 he.2
    case defer d =>
      exfalso
      have h1 := congrArg Act.defers h.1
      have h2 : ({ aV with defers := d :: aV.defers }.put o.dst undef).defers = d :: aV.defers := by cases hd : o.dst <;> rfl
      rw [h2] at h1
      have := congrArg List.length h1
      simp at this
  | halt x w' =>
    cases x <;> simp only [Oper.upon] at h ⊢ <;> exact h.elim

theorem tail_sound (hf : RegFacts m aV.tmps.size ops) : ∀ (d k : Nat) (l : Array Bool) (a : Act) (w : World), k + d = ops.size → m ≤ k → l.size = ops.size → (∀ j, j < ops.size → l.getD j true = decide (j < k)) →
    wpList P ops Q (ops.toList.drop k) a w → wpAny P .any ops Q d l a w
  | 0, k, l, a, w, hk, _, hs, hl, h => by
    have hr : Region.ready .any ops l = [] := by
      rw [List.eq_nil_iff_forall_not_mem]
      intro i hi
      obtain ⟨o, ho, h1, _⟩ := mem_ready.1 hi
      have hi' : i < ops.size := (Array.getElem?_eq_some_iff.1 ho).1
      rw [hl i hi'] at h1
      simp at h1; omega
    refine ⟨hr, ?_⟩
    have : ops.toList.drop k = [] := List.drop_eq_nil_iff.2 (by simp; omega)
    rw [this] at h
    exact h
  | d + 1, k, l, a, w, hk, _hm, hs, hl, h => by
    have hks : k < ops.size := by omega
    have hok : ops[k]? = some ops[k] := Array.getElem?_eq_getElem hks
    have hdrop : ops.toList.drop k = ops[k] :: ops.toList.drop (k + 1) := by
      rw [List.drop_eq_getElem_cons (by simpa using hks)]; rfl
    rw [hdrop] at h
    have hset : ∀ j, j < ops.size → (l.setIfInBounds k true).getD j true = decide (j < k + 1) := fun j hj => by
      rw [getD_set (by omega), hl j hj]
      by_cases e : j = k
      · subst e; simp
      · rw [if_neg e]; congr 1; apply propext; omega
    have hb : ∀ k' ∈ binding ops[k], l.getD k' false = true := fun k' hk' => by
      have h1 := hf.up k _ k' hok hk'
      rw [getD_lt (by omega) false true, hl k' (by omega)]
      simpa using h1
    refine ⟨fun h0 => ?_, fun i hi => ?_⟩
    · exfalso
      have : k ∈ Region.ready .any ops l := mem_ready.2 ⟨ops[k], hok, by rw [hl k hks]; simp, hb⟩
      rw [h0] at this
      simp at this
    · obtain ⟨o, ho, h1, h2⟩ := mem_ready.1 hi
      have hi' : i < ops.size := (Array.getElem?_eq_some_iff.1 ho).1
      rw [hl i hi'] at h1
      have hki : k ≤ i := by simpa using h1
      have hik : i = k := by
        rcases Nat.lt_or_ge k i with hlt | hge
        · have h3 := h2 k (hf.tail i o k (by omega) ho hlt)
          rw [getD_lt (by omega) false true, hl k hks] at h3
          simp at h3
        · omega
      subst hik
      unfold wpOp
      rw [hok]
      simp only [wpList] at h
      simp only
      split
      · rename_i hw
        rw [if_pos hw] at h
        exact h.imp (Oper.wp_mono (fun a w h' => tail_sound hf d (i + 1) _ a w (by omega) (by omega) (by simpa using hs) hset h')) id
      · rename_i hw
        rw [if_neg hw] at h
        exact tail_sound hf d (i + 1) _ _ _ (by omega) (by omega) (by simpa using hs) hset h

theorem reg_sound (hf : RegFacts m aV.tmps.size ops) (hV : ∀ t, (∀ i o, i < m → ops[i]? = some o → o.dst ≠ some t) → aV.tmps[t]? = a0.tmps[t]?)
    (hstep : ∀ w, I w → AllP P ops aV I w (ops.toList.take m)) (htail : ∀ w, I w → wpList P ops Q (ops.toList.drop m) aV w) :
    ∀ (d : Nat) (l : Array Bool) (a : Act) (w : World), unlisted ops.size l = d → RegState m ops a0 aV l a → I w → wpAny P .any ops Q d l a w := by
  intro d
  induction d using Nat.strongRecOn with
  | _ d ih =>
    intro l a w hd hs hI
    by_cases hall : ∀ i, i < m → l.getD i true = true
    · obtain rfl := hs.full hV hall
      have hcount := unlisted_from hf.le hs.size hs.late hall
      refine tail_sound hf d m l a w (by have := hf.le; omega) (Nat.le_refl _) hs.size (fun j hj => ?_) (htail w hI)
      by_cases hjm : j < m
      · rw [hall j hjm]; simp [hjm]
      · rw [hs.late j (by omega) hj]; simp [hjm]
    · have hex : ∃ i, i < m ∧ l.getD i true = false := by
        by_cases h : ∃ i, i < m ∧ l.getD i true = false
        · exact h
        · exact absurd (fun i hi => by cases hb : l.getD i true with | true => rfl | false => exact absurd ⟨i, hi, hb⟩ h) hall
      -- the least that is open
      have hleast : ∃ i, i < m ∧ l.getD i true = false ∧ ∀ j, j < i → l.getD j true = true := by
        obtain ⟨i, hi, hb⟩ := hex
        induction i using Nat.strongRecOn with
        | _ i ihi =>
          by_cases h : ∃ j, j < i ∧ l.getD j true = false
          · obtain ⟨j, hj, hjb⟩ := h; exact ihi j hj (by omega) hjb
          · exact ⟨i, hi, hb, fun j hj => by cases hb' : l.getD j true with | true => rfl | false => exact absurd ⟨j, hj, hb'⟩ h⟩
      obtain ⟨i0, hi0, hb0, hmin⟩ := hleast
      have hi0s : i0 < ops.size := by have := hf.le; omega
      have hr0 : i0 ∈ Region.ready .any ops l := mem_ready.2 ⟨ops[i0], Array.getElem?_eq_getElem hi0s, hb0, fun k hk => by
        have := hf.up i0 _ k (Array.getElem?_eq_getElem hi0s) hk
        rw [getD_lt (by rw [hs.size]; omega) false true]
        exact hmin k this⟩
      have hpos : 0 < d := by
        rw [← hd]
        refine Nat.pos_of_ne_zero fun h0 => ?_
        have := unlisted_set (n := ops.size) hi0s (by rw [hs.size]; exact hi0s) hb0
        omega
      obtain ⟨d', rfl⟩ : ∃ d', d = d' + 1 := ⟨d - 1, by omega⟩
      refine ⟨fun h0 => by rw [h0] at hr0; simp at hr0, fun i hi => ?_⟩
      obtain ⟨o, ho, h1, h2⟩ := mem_ready.1 hi
      have his : i < ops.size := (Array.getElem?_eq_some_iff.1 ho).1
      have him : i < m := by
        rcases Nat.lt_or_ge i m with h | h
        · exact h
        · exfalso
          have h3 := h2 i0 (hf.tail i o i0 h ho (by omega))
          rw [getD_lt (by rw [hs.size]; exact hi0s) false true, hb0] at h3
          simp at h3
      have hdec : unlisted ops.size (l.setIfInBounds i true) = d' := by
        have hlt := unlisted_set (n := ops.size) his (by rw [hs.size]; exact his) h1
        have hge : unlisted ops.size l ≤ unlisted ops.size (l.setIfInBounds i true) + 1 := by
          unfold unlisted
          have : ∀ (L : List Nat), L.Nodup → L.countP (fun j => !l.getD j true) ≤ L.countP (fun j => !(l.setIfInBounds i true).getD j true) + 1 := by
            intro L
            induction L with
            | nil => simp
            | cons x L ihL =>
              intro hnd
              rw [List.nodup_cons] at hnd
              have ihL := ihL hnd.2
              rw [List.countP_cons, List.countP_cons, getD_set (by rw [hs.size]; exact his)]
              by_cases e : x = i
              · subst e
                have hsame : L.countP (fun j => !l.getD j true) = L.countP (fun j => !(l.setIfInBounds x true).getD j true) := by
                  apply List.countP_congr
                  intro y hy
                  have hyx : y ≠ x := fun e => hnd.1 (by rw [← e]; exact hy)
                  rw [getD_set (by rw [hs.size]; exact his), if_neg hyx]
                rw [hsame]
                simp
                split <;> omega
              · rw [if_neg e]; split <;> omega
          exact this _ List.nodup_range
        omega
      have hstate : ∀ v, aV.put o.dst v = aV → ∀ w', I w' → wpAny P .any ops Q d' (l.setIfInBounds i true) (a.put o.dst v) w' := fun v hv w' hI' =>
        ih d' (by omega) _ _ _ hdec (hs.next hf him ho hv) hI'
      have hmem : o ∈ ops.toList.take m := by
        have : (ops.toList.take m)[i]? = some o := by rw [List.getElem?_take, if_pos him]; simpa using ho
        exact List.mem_of_getElem? this
      have hop := (hstep w hI).get hmem
      unfold wpOp
      rw [ho]
      simp only
      rw [hs.wanted hf him ho h2]
      simp only [wpList] at hop
      have heval := hs.sees hf hV him ho h2
      obtain ⟨hsel, _⟩ := hf.calm i o him ho
      split
      · rename_i hw
        rw [if_pos hw] at hop
        rcases hop with h3 | ⟨_, _, _, h3⟩
        · refine .inl ?_
          unfold Oper.wp at h3 ⊢
          rw [execOp_congr o hsel heval]
          exact upon_transfer h3 fun v w' hv hI' => hstate v hv w' hI'
        · exact h3.elim
      · rename_i hw
        rw [if_neg hw] at hop
        exact hstate undef hop.1 w hop.2

/-- **THE RULE.** -/
theorem wp_region_phases {id : Nat} {L : List Oper} {a : Act} {w : World} (m : Nat) (vs : List Value) (I : World → Prop) {tm : Array Value}
    (hm : P.follows .mixedOrders = true) (hok : regOk m a.tmps.size L.toArray = true) (htm : fillT (L.take m) vs a.tmps = tm)
    (h0 : I w.drew)
    (hstep : ∀ w', I w' → AllP P L.toArray { tmps := tm, defers := a.defers } I w' (L.take m))
    (htail : ∀ w', I w' → wpList P L.toArray Q (L.drop m) { tmps := tm, defers := a.defers } w') :
    (Code.region id L.toArray true).wp P Q a w := by
  subst htm
  have hsz : (fillT (L.take m) vs a.tmps).size = a.tmps.size := fillT_size _ _ _
  have hf : RegFacts m ({ tmps := fillT (L.take m) vs a.tmps, defers := a.defers } : Act).tmps.size L.toArray := by
    show RegFacts m (fillT (L.take m) vs a.tmps).size L.toArray
    rw [hsz]; exact regFacts hok
  refine wp_region_any hm ?_
  have hcount : unlisted L.toArray.size (Array.replicate L.toArray.size false) = L.toArray.size := by
    have := unlisted_from (m := 0) (N := L.toArray.size) (l := Array.replicate L.toArray.size false) (Nat.zero_le _) (by simp) (fun j _ hj => by
      rw [Array.getD_eq_getD_getElem?, Array.getElem?_eq_getElem (by simpa using hj)]; simp) (fun i hi => by omega)
    simpa using this
  refine reg_sound (a0 := a) hf (fun t ht => ?_) (by simpa using hstep) (by simpa using htail) _ _ _ _ hcount ⟨by simp, fun j _ hj => by
      rw [Array.getD_eq_getD_getElem?, Array.getElem?_eq_getElem (by simpa using hj)]; simp, rfl, hsz.symm, fun i o d him ho hl _ => ?_, fun t _ => rfl⟩ h0
  · refine fillT_other _ _ _ fun o ho e => ?_
    obtain ⟨j, hj⟩ := List.mem_iff_getElem?.1 ho
    rw [List.getElem?_take] at hj
    split at hj
    · exact ht j o (by assumption) (by simpa using hj) e
    · simp at hj
  · exfalso
    have his : i < L.toArray.size := (Array.getElem?_eq_some_iff.1 ho).1
    rw [Array.getD_eq_getD_getElem?, Array.getElem?_eq_getElem (by simpa using his)] at hl
    simp at hl
end
end Go.Proofs.Ytknibnbepmdapaa

/-
The rule for regions that draw their order (Reg), where two operations, one behind the other, make memory: the invariant says how many of them have been done.
-/
namespace Go.Proofs.Ytknibnbepmdapaa
open Go
section
variable {F : Fence} {n : Nat} {P : Program} {m : Nat} {ops : Array Oper} {Q : Exit → Act → World → Prop} {a0 aV : Act}
/-- How many of two operations have been done. -/
def twoOf (e0 : Nat) (l : Array Bool) : Nat := (if l.getD e0 true = true then 1 else 0) + (if l.getD (e0 + 1) true = true then 1 else 0)

theorem reg_soundIn1 {I : Nat → World → Prop} {e0 : Nat} (hf : RegFacts m aV.tmps.size ops) (he0 : e0 + 1 < m) (hbe : ∀ o, ops[e0 + 1]? = some o → e0 ∈ binding o) (hV : ∀ t, (∀ i o, i < m → ops[i]? = some o → o.dst ≠ some t) → aV.tmps[t]? = a0.tmps[t]?)
    (hstep : ∀ b w, I b w → ∀ i o, i < m → ops[i]? = some o → (i = e0 → b = 0) → (i = e0 + 1 → b = 1) → wpListIn F n P ops (PostA aV (I (if i = e0 then 1 else if i = e0 + 1 then 2 else b))) [o] aV w) (htail : ∀ w, I 2 w → wpListIn F n P ops Q (ops.toList.drop m) aV w) :
    ∀ (d : Nat) (l : Array Bool) (a : Act) (w : World), unlisted ops.size l = d → RegState m ops a0 aV l a → (l.getD (e0 + 1) true = true → l.getD e0 true = true) → I (twoOf e0 l) w → wpAnyIn F n P .any ops Q d l a w := by
  intro d
  induction d using Nat.strongRecOn with
  | _ d ih =>
    intro l a w hd hs hcl hI
    by_cases hall : ∀ i, i < m → l.getD i true = true
    · obtain rfl := hs.full hV hall
      have hcount := unlisted_from hf.le hs.size hs.late hall
      refine tail_soundIn hf d m l a w (by have := hf.le; omega) (Nat.le_refl _) hs.size (fun j hj => ?_) (htail w (by unfold twoOf at hI; rw [hall e0 (by omega), hall (e0 + 1) he0] at hI; exact hI))
      by_cases hjm : j < m
      · rw [hall j hjm]; simp [hjm]
      · rw [hs.late j (by omega) hj]; simp [hjm]
    · have hex : ∃ i, i < m ∧ l.getD i true = false := by
        by_cases h : ∃ i, i < m ∧ l.getD i true = false
        · exact h
        · exact absurd (fun i hi => by cases hb : l.getD i true with | true => rfl | false => exact absurd ⟨i, hi, hb⟩ h) hall
      -- the least that is open
      have hleast : ∃ i, i < m ∧ l.getD i true = false ∧ ∀ j, j < i → l.getD j true = true := by
        obtain ⟨i, hi, hb⟩ := hex
        induction i using Nat.strongRecOn with
        | _ i ihi =>
          by_cases h : ∃ j, j < i ∧ l.getD j true = false
          · obtain ⟨j, hj, hjb⟩ := h; exact ihi j hj (by omega) hjb
          · exact ⟨i, hi, hb, fun j hj => by cases hb' : l.getD j true with | true => rfl | false => exact absurd ⟨j, hj, hb'⟩ h⟩
      obtain ⟨i0, hi0, hb0, hmin⟩ := hleast
      have hi0s : i0 < ops.size := by have := hf.le; omega
      have hr0 : i0 ∈ Region.ready .any ops l := mem_ready.2 ⟨ops[i0], Array.getElem?_eq_getElem hi0s, hb0, fun k hk => by
        have := hf.up i0 _ k (Array.getElem?_eq_getElem hi0s) hk
        rw [getD_lt (by rw [hs.size]; omega) false true]
        exact hmin k this⟩
      have hpos : 0 < d := by
        rw [← hd]
        refine Nat.pos_of_ne_zero fun h0 => ?_
        have := unlisted_set (n := ops.size) hi0s (by rw [hs.size]; exact hi0s) hb0
        omega
      obtain ⟨d', rfl⟩ : ∃ d', d = d' + 1 := ⟨d - 1, by omega⟩
      refine ⟨fun h0 => by rw [h0] at hr0; simp at hr0, fun i hi => ?_⟩
      obtain ⟨o, ho, h1, h2⟩ := mem_ready.1 hi
      have his : i < ops.size := (Array.getElem?_eq_some_iff.1 ho).1
      have him : i < m := by
        rcases Nat.lt_or_ge i m with h | h
        · exact h
        · exfalso
          have h3 := h2 i0 (hf.tail i o i0 h ho (by omega))
          rw [getD_lt (by rw [hs.size]; exact hi0s) false true, hb0] at h3
          simp at h3
      have hdec : unlisted ops.size (l.setIfInBounds i true) = d' := by
        have hlt := unlisted_set (n := ops.size) his (by rw [hs.size]; exact his) h1
        have hge : unlisted ops.size l ≤ unlisted ops.size (l.setIfInBounds i true) + 1 := by
          unfold unlisted
          have : ∀ (L : List Nat), L.Nodup → L.countP (fun j => !l.getD j true) ≤ L.countP (fun j => !(l.setIfInBounds i true).getD j true) + 1 := by
            intro L
            induction L with
            | nil => simp
            | cons x L ihL =>
              intro hnd
              rw [List.nodup_cons] at hnd
              have ihL := ihL hnd.2
              rw [List.countP_cons, List.countP_cons, getD_set (by rw [hs.size]; exact his)]
              by_cases e : x = i
              · subst e
                have hsame : L.countP (fun j => !l.getD j true) = L.countP (fun j => !(l.setIfInBounds x true).getD j true) := by
                  apply List.countP_congr
                  intro y hy
                  have hyx : y ≠ x := fun e => hnd.1 (by rw [← e]; exact hy)
                  rw [getD_set (by rw [hs.size]; exact his), if_neg hyx]
                rw [hsame]
                simp
                split <;> omega
              · rw [if_neg e]; split <;> omega
          exact this _ List.nodup_range
        omega
      have hg0 : (l.setIfInBounds i true).getD e0 true = if e0 = i then true else l.getD e0 true := getD_set (by rw [hs.size]; exact his)
      have hg1 : (l.setIfInBounds i true).getD (e0 + 1) true = if e0 + 1 = i then true else l.getD (e0 + 1) true := getD_set (by rw [hs.size]; exact his)
      have hi1 : i = e0 + 1 → l.getD e0 true = true := fun e => by
        subst e
        have := h2 e0 (hbe o ho)
        rwa [getD_lt (by rw [hs.size]; omega) false true] at this
      have hcl' : (l.setIfInBounds i true).getD (e0 + 1) true = true → (l.setIfInBounds i true).getD e0 true = true := by
        rw [hg0, hg1]
        by_cases h : e0 = i
        · intro _; rw [if_pos h]
        · rw [if_neg h]
          by_cases h' : e0 + 1 = i
          · intro _; exact hi1 h'.symm
          · rw [if_neg h']; exact hcl
      have hz0 : i = e0 → twoOf e0 l = 0 := fun e => by
        subst e
        unfold twoOf
        rw [h1]
        cases hx : l.getD (i + 1) true with
        | false => rfl
        | true => have := hcl hx; rw [h1] at this; cases this
      have hz1 : i = e0 + 1 → twoOf e0 l = 1 := fun e => by
        have h3 := hi1 e
        subst e
        unfold twoOf
        rw [h1, h3]; rfl
      have hee : twoOf e0 (l.setIfInBounds i true) = if i = e0 then 1 else if i = e0 + 1 then 2 else twoOf e0 l := by
        by_cases h : i = e0
        · rw [if_pos h]
          have h0 := hz0 h
          subst h
          unfold twoOf at h0 ⊢
          rw [hg0, hg1]
          rw [h1] at h0
          cases hx : l.getD (i + 1) true with
          | false => simp
          | true => rw [hx] at h0; simp at h0
        · rw [if_neg h]
          by_cases h' : i = e0 + 1
          · rw [if_pos h']
            have h3 := hi1 h'
            subst h'
            unfold twoOf
            rw [hg0, hg1, h3]
            simp
          · rw [if_neg h']
            have n0 : ¬ e0 = i := fun e => h e.symm
            have n1 : ¬ e0 + 1 = i := fun e => h' e.symm
            unfold twoOf
            rw [hg0, hg1]
            simp only [n0, n1, if_false]
      have hstate : ∀ v, aV.put o.dst v = aV → ∀ w', I (if i = e0 then 1 else if i = e0 + 1 then 2 else twoOf e0 l) w' → wpAnyIn F n P .any ops Q d' (l.setIfInBounds i true) (a.put o.dst v) w' := fun v hv w' hI' =>
        ih d' (by omega) _ _ _ hdec (hs.next hf him ho hv) hcl' (by rw [hee]; exact hI')
      have hop := hstep _ w hI i o him ho hz0 hz1
      unfold wpOpIn
      rw [ho]
      simp only
      rw [hs.wanted hf him ho h2]
      simp only [wpListIn] at hop
      have heval := hs.sees hf hV him ho h2
      obtain ⟨hsel, hdef⟩ := hf.calm i o him ho
      split
      · rename_i hw
        rw [if_pos hw] at hop
        refine ⟨fun f hfa => hop.1 f (by rw [← about_congr o w heval]; exact hfa), ?_⟩
        have h3 := hop.2
        rw [Oper.semAt_eq _ _ _ hdef] at h3 ⊢
        rw [execOp_congr o hsel heval]
        exact upon_transferIn h3 fun v w' hv hI' => hstate v hv w' hI'
      · rename_i hw
        rw [if_neg hw] at hop
        exact ⟨fun f hfa => hop.1 f (by rw [← about_congr o w heval]; exact hfa), hstate undef hop.2.1 w hop.2.2⟩

/-- **THE RULE, WHERE TWO OPERATIONS, ONE BEHIND THE OTHER, MAKE MEMORY: the last two of the first e0 + 2.** -/
theorem wpIn_region_twice {id : Nat} {L : List Oper} {a : Act} {w : World} (e0 : Nat) (vs : List Value) (I : Nat → World → Prop) {tm : Array Value}
    (hm : P.follows .mixedOrders = true) (hok : regOk (e0 + 2) a.tmps.size L.toArray = true) (htm : fillT (L.take (e0 + 2)) vs a.tmps = tm)
    (h0 : I 0 w.drew)
    (hstep : ∀ b w', I b w' → AllIn F n P L.toArray { tmps := tm, defers := a.defers } (I b) w' (L.take e0)) {oe : Oper} (hoe : L[e0]? = some oe)
    (hmake : ∀ w', I 0 w' → wpListIn F n P L.toArray (PostA { tmps := tm, defers := a.defers } (I 1)) [oe] { tmps := tm, defers := a.defers } w')
    {of : Oper} (hof : L[e0 + 1]? = some of) (hbe : e0 ∈ binding of)
    (hmore : ∀ w', I 1 w' → wpListIn F n P L.toArray (PostA { tmps := tm, defers := a.defers } (I 2)) [of] { tmps := tm, defers := a.defers } w')
    (htail : ∀ w', I 2 w' → wpListIn F n P L.toArray Q (L.drop (e0 + 2)) { tmps := tm, defers := a.defers } w') :
    (Code.region id L.toArray true).wpIn F n P Q a w := by
  subst htm
  have hsz : (fillT (L.take (e0 + 2)) vs a.tmps).size = a.tmps.size := fillT_size _ _ _
  have hf : RegFacts (e0 + 2) ({ tmps := fillT (L.take (e0 + 2)) vs a.tmps, defers := a.defers } : Act).tmps.size L.toArray := by
    show RegFacts (e0 + 2) (fillT (L.take (e0 + 2)) vs a.tmps).size L.toArray
    rw [hsz]; exact regFacts hok
  refine wpIn_region_any hm ?_
  have hcount : unlisted L.toArray.size (Array.replicate L.toArray.size false) = L.toArray.size := by
    have := unlisted_from (m := 0) (N := L.toArray.size) (l := Array.replicate L.toArray.size false) (Nat.zero_le _) (by simp) (fun j _ hj => by
      rw [Array.getD_eq_getD_getElem?, Array.getElem?_eq_getElem (by simpa using hj)]; simp) (fun i hi => by omega)
    simpa using this
  have hF0 : (Array.replicate L.toArray.size false).getD e0 true = false := by
    have hlt : e0 < L.length := (List.getElem?_eq_some_iff.1 hoe).1
    rw [Array.getD_eq_getD_getElem?, Array.getElem?_eq_getElem (by simpa using hlt)]; simp
  have hF1 : (Array.replicate L.toArray.size false).getD (e0 + 1) true = false := by
    have hlt : e0 + 1 < L.length := (List.getElem?_eq_some_iff.1 hof).1
    rw [Array.getD_eq_getD_getElem?, Array.getElem?_eq_getElem (by simpa using hlt)]; simp
  refine reg_soundIn1 (a0 := a) (e0 := e0) hf (Nat.lt_succ_self _) (fun o ho => by
      have h1 : L[e0 + 1]? = some o := by simpa using ho
      rw [hof] at h1; cases h1; exact hbe) (fun t ht => ?_) (fun b w' hI i o hi ho hb hb1 => ?_) (by simpa using htail) _ _ _ _ hcount ⟨by simp, fun j _ hj => by
      rw [Array.getD_eq_getD_getElem?, Array.getElem?_eq_getElem (by simpa using hj)]; simp, rfl, hsz.symm, fun i o d him ho hl _ => ?_, fun t _ => rfl⟩ (fun h => by rw [hF1] at h; cases h) (by unfold twoOf; rw [hF0, hF1]; exact h0)
  · refine fillT_other _ _ _ fun o ho e => ?_
    obtain ⟨j, hj⟩ := List.mem_iff_getElem?.1 ho
    rw [List.getElem?_take] at hj
    split at hj
    · exact ht j o (by assumption) (by simpa using hj) e
    · simp at hj
  · by_cases he : i = e0
    · subst he
      rw [hb rfl] at hI
      rw [if_pos rfl]
      have : o = oe := by
        have h1 : L[i]? = some o := by simpa using ho
        rw [hoe] at h1; cases h1; rfl
      subst this
      exact hmake w' hI
    · rw [if_neg he]
      by_cases he1 : i = e0 + 1
      · subst he1
        rw [hb1 rfl] at hI
        rw [if_pos rfl]
        have : o = of := by
          have h1 : L[e0 + 1]? = some o := by simpa using ho
          rw [hof] at h1; cases h1; rfl
        subst this
        exact hmore w' hI
      rw [if_neg he1]
      refine (hstep b w' hI).get ?_
      have : (L.take e0)[i]? = some o := by rw [List.getElem?_take, if_pos (by omega)]; simpa using ho
      exact List.mem_of_getElem? this
  · exfalso
    have his : i < L.toArray.size := (Array.getElem?_eq_some_iff.1 ho).1
    rw [Array.getD_eq_getD_getElem?, Array.getElem?_eq_getElem (by simpa using his)] at hl
    simp at hl
end
end Go.Proofs.Ytknibnbepmdapaa

/-
A region that draws its order and holds calls, walked once: the operations that only read float, each with its designated value in every world that meets an invariant; the others (a list of places) come in one order.
-/
namespace Go.Proofs.Ytknibnbepmdapaa
open Go

def mixOp (bs : List Nat) (size : Nat) (ops : Array Oper) (i : Nat) (o : Oper) : Bool :=
  (match o.op with | .select _ _ => false | .defer _ => false | _ => true) &&
  o.guard.isNone &&
  (match o.dst with | some d => decide (d < size) | none => bs.contains i) &&
  ((List.range ops.size).all fun j => j == i || bs.contains j || (match o.dst, (ops[j]?).bind (·.dst) with | some d, some d' => d != d' | _, _ => true)) &&
  ((List.range ops.size).all fun j => (if bs.contains j then bs.contains i else (binding o).contains j) || (match (ops[j]?).bind (·.dst) with
    | some d => o.op.operands.toList.all fun | .tmp t => t != d | _ => true
    | none => true)) &&
  ((binding o).all fun k => decide (k < i))

def chainB (ops : Array Oper) : List Nat → Bool
  | b :: b' :: r => (match ops[b']? with | some o => (binding o).contains b | none => false) && chainB ops (b' :: r)
  | _ => true

def mixOk (bs : List Nat) (size : Nat) (ops : Array Oper) : Bool :=
  ((List.range ops.size).all fun i => match ops[i]? with | some o => mixOp bs size ops i o | none => false) && chainB ops bs && bs.all (fun b => decide (b < ops.size)) && decide (bs.Nodup) &&
  (match bs.getLast? with | some e => (List.range ops.size).all (fun i => bs.contains i || (match ops[e]? with | some o => (binding o).contains i | none => false)) | none => false)

structure MixFacts (bs : List Nat) (size : Nat) (ops : Array Oper) : Prop where
  calm : ∀ (i : Nat) (o : Oper), ops[i]? = some o → (∀ cs b, o.op ≠ .select cs b) ∧ ∀ c, o.op ≠ .defer c
  plain : ∀ (i : Nat) (o : Oper), ops[i]? = some o → o.guard = none
  dst : ∀ (i : Nat) (o : Oper), ops[i]? = some o → i ∉ bs → ∃ d, o.dst = some d ∧ d < size
  apart : ∀ (i j : Nat) (o o' : Oper) (d : Nat), j ≠ i → j ∉ bs → ops[i]? = some o → ops[j]? = some o' → o.dst = some d → o'.dst ≠ some d
  needA : ∀ (i j : Nat) (o o' : Oper) (t : Nat), j ∉ bs → ops[i]? = some o → ops[j]? = some o' → o'.dst = some t → .tmp t ∈ o.op.operands → j ∈ binding o
  needB : ∀ (i j : Nat) (o o' : Oper) (t : Nat), i ∉ bs → j ∈ bs → ops[i]? = some o → ops[j]? = some o' → o'.dst = some t → .tmp t ∉ o.op.operands
  up : ∀ (i : Nat) (o : Oper) (k : Nat), ops[i]? = some o → k ∈ binding o → k < i
  chain : chainB ops bs = true
  inB : ∀ b ∈ bs, b < ops.size
  last : ∃ e ∈ bs, ∀ i, i < ops.size → i ∉ bs → ∃ o, ops[e]? = some o ∧ i ∈ binding o

theorem mixFacts {bs : List Nat} {size : Nat} {ops : Array Oper} (h : mixOk bs size ops = true) : MixFacts bs size ops := by
  unfold mixOk at h
  simp only [Bool.and_eq_true, decide_eq_true_eq] at h
  obtain ⟨⟨⟨⟨hA, hch⟩, hin⟩, _⟩, hlast⟩ := h
  have hop : ∀ i o, ops[i]? = some o → mixOp bs size ops i o = true := fun i o ho => by
    have := List.all_eq_true.1 hA i (List.mem_range.2 (Array.getElem?_eq_some_iff.1 ho).1); rw [ho] at this; exact this
  have hparts : ∀ i o, ops[i]? = some o → _ := fun i o ho => by
    have := hop i o ho
    unfold mixOp at this
    simp only [Bool.and_eq_true] at this
    exact this
  refine ⟨?_, ?_, ?_, ?_, ?_, ?_, ?_, hch, fun b hb => by simpa using List.all_eq_true.1 hin b hb, ?_⟩
  rotate_right
  · cases hl : bs.getLast? with
    | none => rw [hl] at hlast; cases hlast
    | some e =>
      rw [hl] at hlast
      refine ⟨e, List.mem_of_getLast? hl, fun i hi hn => ?_⟩
      have h1 := List.all_eq_true.1 hlast i (List.mem_range.2 hi)
      cases ho : ops[e]? with
      | none => rw [ho] at h1; simp at h1; exact absurd h1 hn
      | some o =>
        rw [ho] at h1
        simp only [Bool.or_eq_true, List.contains_iff_mem] at h1
        rcases h1 with h1 | h1
        · exact absurd h1 hn
        · exact ⟨o, rfl, h1⟩
  · intro i o ho
    obtain ⟨⟨⟨⟨⟨h1, _⟩, _⟩, _⟩, _⟩, _⟩ := hparts i o ho
    constructor
    · intro cs b e; rw [e] at h1; simp at h1
    · intro c e; rw [e] at h1; simp at h1
  · intro i o ho
    obtain ⟨⟨⟨⟨⟨_, h1⟩, _⟩, _⟩, _⟩, _⟩ := hparts i o ho
    exact Option.isNone_iff_eq_none.1 h1
  · intro i o ho hi
    obtain ⟨⟨⟨⟨_, h1⟩, _⟩, _⟩, _⟩ := hparts i o ho
    cases hd : o.dst with
    | none => rw [hd] at h1; exact absurd (List.contains_iff_mem.1 h1) hi
    | some d => rw [hd] at h1; exact ⟨d, rfl, by simpa using h1⟩
  · intro i j o o' d hij hj ho ho' hd hd'
    obtain ⟨⟨⟨_, h1⟩, _⟩, _⟩ := hparts i o ho
    have := List.all_eq_true.1 h1 j (List.mem_range.2 (Array.getElem?_eq_some_iff.1 ho').1)
    rw [ho', hd] at this
    simp [hd', hij, hj] at this
  · intro i j o o' t hj ho ho' ht hx
    obtain ⟨⟨_, h1⟩, _⟩ := hparts i o ho
    have := List.all_eq_true.1 h1 j (List.mem_range.2 (Array.getElem?_eq_some_iff.1 ho').1)
    rw [ho'] at this
    rw [if_neg (by simpa using hj)] at this
    simp only [Option.bind_some, ht, Bool.or_eq_true, List.contains_iff_mem, List.all_eq_true] at this
    rcases this with this | this
    · exact this
    · have := this (.tmp t) (Array.mem_toList_iff.2 hx)
      simp at this
  · intro i j o o' t hi hj ho ho' ht hx
    obtain ⟨⟨_, h1⟩, _⟩ := hparts i o ho
    have := List.all_eq_true.1 h1 j (List.mem_range.2 (Array.getElem?_eq_some_iff.1 ho').1)
    rw [ho'] at this
    rw [if_pos (by simpa using hj)] at this
    simp only [Option.bind_some, ht, Bool.or_eq_true, List.contains_iff_mem, List.all_eq_true] at this
    rcases this with this | this
    · exact hi this
    · have := this (.tmp t) (Array.mem_toList_iff.2 hx)
      simp at this
  · intro i o k ho hk
    obtain ⟨_, h1⟩ := hparts i o ho
    have := List.all_eq_true.1 h1 k hk
    simpa using this


/-- The ops that float. -/
def Floats (bs : List Nat) (ops : Array Oper) (i : Nat) : Prop := i < ops.size ∧ i ∉ bs

/-- How a frame stands to the one in which all that floats is done. -/
structure MixState (bs : List Nat) (ops : Array Oper) (rs : List Nat) (aC : Act) (l : Array Bool) (a : Act) : Prop where
  size : l.size = ops.size
  rest : ∀ b ∈ rs, l.getD b true = false
  past : ∃ ps, bs = ps ++ rs ∧ ∀ b ∈ ps, l.getD b true = true
  closed : ∀ b o, ops[b]? = some o → l.getD b true = true → ∀ k ∈ binding o, l.getD k true = true
  defers : a.defers = aC.defers
  tsize : a.tmps.size = aC.tmps.size
  same : ∀ t, (∀ i o, i ∉ bs → ops[i]? = some o → l.getD i true = false → o.dst ≠ some t) → a.tmps[t]? = aC.tmps[t]?

section
variable {bs rs : List Nat} {ops : Array Oper} {aC a : Act} {l : Array Bool}

theorem MixState.sees (hs : MixState bs ops rs aC l a) (hf : MixFacts bs aC.tmps.size ops) {i : Nat} {o : Oper} (ho : ops[i]? = some o) (hb : ∀ k ∈ binding o, l.getD k false = true) :
    ∀ x ∈ o.op.operands, a.eval x = aC.eval x := by
  intro x hx
  cases x with
  | tmp t =>
    show a.tmps.getD t undef = aC.tmps.getD t undef
    rw [Array.getD_eq_getD_getElem?, Array.getD_eq_getD_getElem?]
    congr 1
    refine hs.same t fun j o' hj ho' hl e => ?_
    have := hb j (hf.needA i j o o' t hj ho ho' e hx)
    have h2 := getD_false this
    rw [hl] at h2
    cases h2
  | const v => rfl
  | global g => rfl
  | func f => rfl

theorem closed_set {l : Array Bool} {ops : Array Oper} (h : ∀ b o, ops[b]? = some o → l.getD b true = true → ∀ k ∈ binding o, l.getD k true = true) {i : Nat} {o : Oper} (hlt : i < l.size) (ho : ops[i]? = some o) (hbd : ∀ k ∈ binding o, l.getD k true = true) :
    ∀ b o, ops[b]? = some o → (l.setIfInBounds i true).getD b true = true → ∀ k ∈ binding o, (l.setIfInBounds i true).getD k true = true := by
  intro b o' hb' hdone k hk
  rw [getD_set hlt]
  split
  · rfl
  · rw [getD_set hlt] at hdone
    split at hdone
    · rename_i e
      subst e
      rw [ho] at hb'; cases hb'
      exact hbd k hk
    · exact h b o' hb' hdone k hk

/-- A step of what floats. -/
theorem MixState.float (hs : MixState bs ops rs aC l a) {i : Nat} {o : Oper} {v : Value} {d : Nat} (hi : i ∉ bs) (ho : ops[i]? = some o) (hd : o.dst = some d) (hv : aC.tmps[d]? = some v) (hbd : ∀ k ∈ binding o, l.getD k true = true) :
    MixState bs ops rs aC (l.setIfInBounds i true) (a.put o.dst v) := by
  have hlt : i < l.size := by rw [hs.size]; exact (Array.getElem?_eq_some_iff.1 ho).1
  have hput : (a.put o.dst v).tmps = a.tmps.setIfInBounds d v := by rw [hd]; rfl
  have hpd : (a.put o.dst v).defers = a.defers := by rw [hd]; rfl
  obtain ⟨ps, hps, hpast⟩ := hs.past
  refine ⟨by rw [Array.size_setIfInBounds]; exact hs.size, fun b hb => ?_, ⟨ps, hps, fun b hb => ?_⟩, closed_set hs.closed hlt ho hbd, by rw [hpd]; exact hs.defers, by rw [hput, Array.size_setIfInBounds]; exact hs.tsize, fun t ht => ?_⟩
  · rw [getD_set hlt, if_neg (fun e => hi (by rw [← e, hps]; exact List.mem_append_right _ hb))]
    exact hs.rest b hb
  · rw [getD_set hlt]; split; rfl; exact hpast b hb
  · rw [hput]
    by_cases e : d = t
    · subst e
      have hds : d < a.tmps.size := by rw [hs.tsize]; exact (Array.getElem?_eq_some_iff.1 hv).1
      rw [Array.getElem?_setIfInBounds_self, hv]
      simp [hds]
    · rw [Array.getElem?_setIfInBounds_ne e]
      refine hs.same t fun j oj hj hoj hlj => ?_
      by_cases hji : j = i
      · subst hji
        rw [ho] at hoj; cases hoj
        rw [hd]; simpa using e
      · exact ht j oj hj hoj (by rw [getD_set hlt, if_neg hji]; exact hlj)

/-- A step of the others. -/
theorem MixState.step {b : Nat} (hs : MixState bs ops (b :: rs) aC l a) {o : Oper} (v : Value) (hb : b ∈ bs) (ho : ops[b]? = some o) (hnd : b ∉ rs) (hbd : ∀ k ∈ binding o, l.getD k true = true) :
    MixState bs ops rs (aC.put o.dst v) (l.setIfInBounds b true) (a.put o.dst v) := by
  have hlt : b < l.size := by rw [hs.size]; exact (Array.getElem?_eq_some_iff.1 ho).1
  have hpd : ∀ x : Act, (x.put o.dst v).defers = x.defers := fun x => by cases hd : o.dst <;> rfl
  have hsz : ∀ x : Act, (x.put o.dst v).tmps.size = x.tmps.size := fun x => by
    cases hd : o.dst with
    | none => rfl
    | some d => show (x.tmps.setIfInBounds d v).size = _; rw [Array.size_setIfInBounds]
  obtain ⟨ps, hps, hpast⟩ := hs.past
  refine ⟨by rw [Array.size_setIfInBounds]; exact hs.size, fun r hr => ?_, ⟨ps ++ [b], by rw [hps, List.append_assoc]; rfl, fun r hr => ?_⟩, closed_set hs.closed hlt ho hbd, by rw [hpd, hpd]; exact hs.defers, by rw [hsz, hsz]; exact hs.tsize, fun t ht => ?_⟩
  · rw [getD_set hlt, if_neg (fun e => hnd (by rw [← e]; exact hr))]
    exact hs.rest r (List.mem_cons_of_mem _ hr)
  · rw [getD_set hlt]
    split
    · rfl
    · rcases List.mem_append.1 hr with h | h
      · exact hpast r h
      · rw [List.mem_singleton] at h; contradiction
  · have h0 : a.tmps[t]? = aC.tmps[t]? := hs.same t fun j oj hj hoj hlj => ht j oj hj hoj (by rw [getD_set hlt, if_neg (fun e => hj (by rw [e]; exact hb))]; exact hlj)
    cases hd : o.dst with
    | none => exact h0
    | some d =>
      show (a.tmps.setIfInBounds d v)[t]? = (aC.tmps.setIfInBounds d v)[t]?
      by_cases e : d = t
      · subst e
        rw [Array.getElem?_setIfInBounds_self, Array.getElem?_setIfInBounds_self, hs.tsize]
      · rw [Array.getElem?_setIfInBounds_ne e, Array.getElem?_setIfInBounds_ne e]
        exact h0

theorem chain_suffix {ps : List Nat} : chainB ops (ps ++ rs) = true → chainB ops rs = true := by
  induction ps with
  | nil => exact id
  | cons p ps ih =>
    intro h
    apply ih
    cases hps : ps ++ rs with
    | nil => rfl
    | cons q r =>
      rw [List.cons_append, hps] at h
      simp only [chainB, Bool.and_eq_true] at h
      exact h.2

theorem chain_pred {i : Nat} {o : Oper} (ho : ops[i]? = some o) : ∀ (rs : List Nat) (b : Nat), chainB ops (b :: rs) = true → i ∈ rs → ∃ p ∈ b :: rs, p ∈ binding o
  | [], b, _, hi => by cases hi
  | c :: rs, b, h, hi => by
    simp only [chainB, Bool.and_eq_true] at h
    rcases List.mem_cons.1 hi with rfl | hi
    · rw [ho] at h
      exact ⟨b, List.mem_cons_self, List.contains_iff_mem.1 h.1⟩
    · obtain ⟨p, hp, hpb⟩ := chain_pred ho rs c h.2 hi
      exact ⟨p, List.mem_cons_of_mem _ hp, hpb⟩
end

section
variable {F : Fence} {n : Nat} {P : Program} {bs : List Nat} {ops : Array Oper} {Q : Exit → Act → World → Prop} {aV : Act} {I : World → Prop}

def PostC (a : Act) (K : Act → World → Prop) : Exit → Act → World → Prop
  | .normal, a', w' => a'.defers = a.defers ∧ K a' w'
  | _, _, _ => False

/-- The others, one behind the other. -/
def ChainIn (F : Fence) (n : Nat) (P : Program) (ops : Array Oper) (I : World → Prop) (Q : Exit → Act → World → Prop) : List Nat → Act → World → Prop
  | [], a, w => Q .normal a w
  | b :: rs, a, w => I w ∧ ∀ o, ops[b]? = some o → wpListIn F n P ops (PostC a (ChainIn F n P ops I Q rs)) [o] a w

theorem upon_chainIn {o : Oper} {a aC : Act} {K K' : Act → World → Prop} {r : Result Next}
    (h : o.uponIn F n P aC (fun a' w' => a'.defers = aC.defers ∧ K' a' w') (PostC aC K') r)
    (hk : ∀ v w', K' (aC.put o.dst v) w' → K (a.put o.dst v) w') : o.uponIn F n P a K Q r := by
  cases r with
  | ok x w' =>
    cases x <;> simp only [Oper.uponIn] at h ⊢
    case value v => exact hk v w' h.2
    case skip => exact hk _ w' h.2
    case enter f args =>
      refine ⟨h.1, h.2.mono fun e w'' he => ?_⟩
      cases e with
      | returned v => exact hk v w'' he.2
      | panicked c => exact he.elim
      | outgrown => obtain ⟨_, _, he⟩ := he; exact he.elim
    case row row args => exact ⟨h.1, h.2.mono fun v w'' he => hk v w'' he.2⟩
    case round l f tmps assign body =>
      refine ⟨h.1, h.2.mono fun e w'' he => ?_⟩
      cases e with
      | returned v => exact hk v w'' he.2
      | panicked c => exact he.elim
      | outgrown => obtain ⟨_, _, he⟩ := he; exact he.elim
    case defer d =>
      exfalso
      have h1 := h.1
      have h2 : (({ aC with defers := d :: aC.defers } : Act).put o.dst undef).defers = d :: aC.defers := by cases hd : o.dst <;> rfl
      rw [h2] at h1
      have := congrArg List.length h1
      simp at this
  | halt x w' =>
    cases x <;> simp only [Oper.uponIn] at h ⊢ <;> exact h.elim

theorem unlisted_dec {N i : Nat} {l : Array Bool} (hi : i < l.size) : unlisted N l ≤ unlisted N (l.setIfInBounds i true) + 1 := by
  unfold unlisted
  have : ∀ (L : List Nat), L.Nodup → L.countP (fun j => !l.getD j true) ≤ L.countP (fun j => !(l.setIfInBounds i true).getD j true) + 1 := by
    intro L
    induction L with
    | nil => simp
    | cons x L ihL =>
      intro hnd
      rw [List.nodup_cons] at hnd
      have ihL := ihL hnd.2
      rw [List.countP_cons, List.countP_cons, getD_set hi]
      by_cases e : x = i
      · subst e
        have hsame : L.countP (fun j => !l.getD j true) = L.countP (fun j => !(l.setIfInBounds x true).getD j true) := by
          apply List.countP_congr
          intro y hy
          have hyx : y ≠ x := fun e => hnd.1 (by rw [← e]; exact hy)
          rw [getD_set hi, if_neg hyx]
        rw [hsame]
        simp
        split <;> omega
      · rw [if_neg e]; split <;> omega
  exact this _ List.nodup_range

theorem unlisted_all {N : Nat} {l : Array Bool} (h : unlisted N l = 0) {j : Nat} (hj : j < N) : l.getD j true = true := by
  cases hb : l.getD j true with
  | true => rfl
  | false =>
    unfold unlisted at h
    have := List.countP_eq_zero.1 h j (List.mem_range.2 hj)
    rw [hb] at this
    simp at this

theorem unlisted_some {N : Nat} {l : Array Bool} (h : unlisted N l ≠ 0) : ∃ i, i < N ∧ l.getD i true = false ∧ ∀ j, j < i → l.getD j true = true := by
  have hex : ∃ i, i < N ∧ l.getD i true = false := by
    by_cases h' : ∃ i, i < N ∧ l.getD i true = false
    · exact h'
    · exact absurd (unlisted_zero fun j hj => by cases hb : l.getD j true with | true => rfl | false => exact absurd ⟨j, hj, hb⟩ h') h
  obtain ⟨i, hi, hb⟩ := hex
  induction i using Nat.strongRecOn with
  | _ i ihi =>
    by_cases h' : ∃ j, j < i ∧ l.getD j true = false
    · obtain ⟨j, hj, hjb⟩ := h'; exact ihi j hj (by omega) hjb
    · exact ⟨i, hi, hb, fun j hj => by cases hb' : l.getD j true with | true => rfl | false => exact absurd ⟨j, hj, hb'⟩ h'⟩

theorem mix_sound (hf : MixFacts bs aV.tmps.size ops) (hfloat : ∀ i o, i ∉ bs → ops[i]? = some o → ∀ w, I w → wpListIn F n P ops (PostA aV (fun w' => w' = w)) [o] aV w) :
    ∀ (d : Nat) (rs : List Nat) (l : Array Bool) (aC a : Act) (w : World), unlisted ops.size l = d → rs.Nodup → MixState bs ops rs aC l a → aC.tmps.size = aV.tmps.size →
      (∀ t, (∀ b ∈ bs, ∀ o, ops[b]? = some o → o.dst ≠ some t) → aC.tmps[t]? = aV.tmps[t]?) → ChainIn F n P ops I Q rs aC w → wpAnyIn F n P .any ops Q d l a w := by
  intro d
  induction d with
  | zero =>
    intro rs l aC a w hd hn hs hsz hCV hch
    have hall : ∀ j, j < ops.size → l.getD j true = true := fun j hj => unlisted_all hd hj
    have hr : Region.ready .any ops l = [] := by
      rw [List.eq_nil_iff_forall_not_mem]
      intro i hi
      obtain ⟨o, ho, h1, _⟩ := mem_ready.1 hi
      rw [hall i (Array.getElem?_eq_some_iff.1 ho).1] at h1
      cases h1
    refine ⟨hr, ?_⟩
    cases rs with
    | cons b rs =>
      exfalso
      obtain ⟨ps, hps, _⟩ := hs.past
      have hb := hf.inB b (by rw [hps]; exact List.mem_append_right _ List.mem_cons_self)
      have h1 := hs.rest b List.mem_cons_self
      rw [hall b hb] at h1
      cases h1
    | nil =>
      have hae : a = aC := by
        have ht : a.tmps = aC.tmps := by
          apply Array.ext_getElem?
          intro t
          refine hs.same t fun i o _ ho hl => ?_
          rw [hall i (Array.getElem?_eq_some_iff.1 ho).1] at hl
          cases hl
        have hdf := hs.defers
        obtain ⟨t, d⟩ := a
        obtain ⟨t', d'⟩ := aC
        simp only at ht hdf
        rw [ht, hdf]
      rw [hae]
      exact hch
  | succ d ih =>
    intro rs l aC a w hd hn hs hsz hCV hch
    have hfC : MixFacts bs aC.tmps.size ops := by rw [hsz]; exact hf
    obtain ⟨i0, hi0, hb0, hmin⟩ := unlisted_some (N := ops.size) (l := l) (by omega)
    have hr0 : i0 ∈ Region.ready .any ops l := mem_ready.2 ⟨ops[i0], Array.getElem?_eq_getElem hi0, hb0, fun k hk => by
      have := hf.up i0 _ k (Array.getElem?_eq_getElem hi0) hk
      rw [getD_lt (by rw [hs.size]; omega) false true]
      exact hmin k this⟩
    refine ⟨fun h0 => by rw [h0] at hr0; simp at hr0, fun i hi => ?_⟩
    obtain ⟨o, ho, h1, h2⟩ := mem_ready.1 hi
    have his : i < ops.size := (Array.getElem?_eq_some_iff.1 ho).1
    have hil : i < l.size := by rw [hs.size]; exact his
    have hdec : unlisted ops.size (l.setIfInBounds i true) = d := by
      have hlt := unlisted_set (n := ops.size) his hil h1
      have hge := unlisted_dec (N := ops.size) hil
      omega
    have hpl := hf.plain i o ho
    have hw : ∀ t : Array Value, Region.wanted o (yielded ops t) = true := fun t => by unfold Region.wanted; rw [hpl]
    have heval := hs.sees hfC ho h2
    obtain ⟨hsel, hdef⟩ := hf.calm i o ho
    unfold wpOpIn
    rw [ho]
    simp only
    rw [if_pos (hw _)]
    by_cases hib : i ∈ bs
    · obtain ⟨ps, hps, hpast⟩ := hs.past
      have hir : i ∈ rs := by
        rw [hps] at hib
        rcases List.mem_append.1 hib with h | h
        · rw [hpast i h] at h1; cases h1
        · exact h
      cases rs with
      | nil => cases hir
      | cons b rs =>
        have hbi : b = i := by
          rcases List.mem_cons.1 hir with h | h
          · exact h.symm
          · exfalso
            obtain ⟨p, hp, hpb⟩ := chain_pred ho rs b (chain_suffix (ps := ps) (by rw [← hps]; exact hf.chain)) h
            have h3 := getD_false (h2 p hpb)
            rw [hs.rest p hp] at h3
            cases h3
        subst hbi
        rw [List.nodup_cons] at hn
        have hop := hch.2 o ho
        simp only [wpListIn] at hop
        rw [if_pos (hw _)] at hop
        refine ⟨fun f hfa => hop.1 f (by rw [← about_congr o w heval]; exact hfa), ?_⟩
        have h3 := hop.2
        rw [Oper.semAt_eq _ _ _ hdef] at h3 ⊢
        rw [execOp_congr o hsel heval]
        refine upon_chainIn h3 fun v w' hv => ih rs _ _ _ w' hdec hn.2 (hs.step v hib ho hn.1 fun k hk => getD_false (h2 k hk)) ?_ (fun t ht => ?_) hv
        · rw [← hsz]
          cases hd : o.dst with
          | none => rfl
          | some dd => show (aC.tmps.setIfInBounds dd v).size = _; rw [Array.size_setIfInBounds]
        · rw [← hCV t ht]
          cases hd : o.dst with
          | none => rfl
          | some dd =>
            show (aC.tmps.setIfInBounds dd v)[t]? = _
            exact Array.getElem?_setIfInBounds_ne (fun e => ht b hib o ho (by rw [hd, e]))
    · obtain ⟨dd, hdd, hds⟩ := hf.dst i o ho hib
      have hinv : I w := by
        cases rs with
        | cons b rs => exact hch.1
        | nil =>
          exfalso
          obtain ⟨ps, hps, hpast⟩ := hs.past
          rw [List.append_nil] at hps
          obtain ⟨e, he, hall⟩ := hf.last
          obtain ⟨oe, hoe, hbe⟩ := hall i his hib
          have h4 := hs.closed e oe hoe (hpast e (by rw [← hps]; exact he)) i hbe
          rw [h1] at h4
          cases h4
      have hop := hfloat i o hib ho w hinv
      simp only [wpListIn] at hop
      rw [if_pos (hw _)] at hop
      have hevV : ∀ x ∈ o.op.operands, a.eval x = aV.eval x := fun x hx => by
        rw [heval x hx]
        cases x with
        | tmp t =>
          show aC.tmps.getD t undef = aV.tmps.getD t undef
          rw [Array.getD_eq_getD_getElem?, Array.getD_eq_getD_getElem?, hCV t fun b hb o' ho' e => hf.needB i b o o' t hib hb ho ho' e hx]
        | const v => rfl
        | global g => rfl
        | func f => rfl
      refine ⟨fun f hfa => hop.1 f (by rw [← about_congr o w hevV]; exact hfa), ?_⟩
      have h3 := hop.2
      rw [Oper.semAt_eq _ _ _ hdef] at h3 ⊢
      rw [execOp_congr o hsel hevV]
      refine upon_transferIn (I := fun w' => w' = w) h3 fun v w' hv hI' => ?_
      subst hI'
      have hvd : aV.tmps[dd]? = some v := by
        have h4 : aV.tmps.setIfInBounds dd v = aV.tmps := by have := congrArg Act.tmps hv; rw [hdd] at this; exact this
        rw [← h4, Array.getElem?_setIfInBounds_self]
        simp [hds]
      refine ih rs _ aC _ w' hdec hn (hs.float hib ho hdd ?_ fun k hk => getD_false (h2 k hk)) hsz hCV hch
      rw [hCV dd fun b hb o' ho' e => hf.apart b i o' o dd (fun e => hib (by rw [e]; exact hb)) hib ho' ho e hdd]
      exact hvd

/-- The operations that float. -/
def floatsFrom (bs : List Nat) : Nat → List Oper → List Oper
  | _, [] => []
  | i, o :: os => if bs.contains i then floatsFrom bs (i + 1) os else o :: floatsFrom bs (i + 1) os

theorem floatsFrom_mem : ∀ (L : List Oper) (k j : Nat) (o : Oper), L[j]? = some o → k + j ∉ bs → o ∈ floatsFrom bs k L
  | [], _, _, _, h, _ => by simp at h
  | x :: L, k, 0, o, h, hn => by
    simp only [List.getElem?_cons_zero, Option.some.injEq] at h
    subst h
    unfold floatsFrom
    rw [if_neg (by simpa using hn)]
    exact List.mem_cons_self
  | x :: L, k, j + 1, o, h, hn => by
    rw [List.getElem?_cons_succ] at h
    have := floatsFrom_mem L (k + 1) j o h (by rw [show k + 1 + j = k + (j + 1) by omega]; exact hn)
    unfold floatsFrom
    split
    · exact this
    · exact List.mem_cons_of_mem _ this

theorem floatsFrom_idx : ∀ (L : List Oper) (k : Nat) (o : Oper), o ∈ floatsFrom bs k L → ∃ j, L[j]? = some o ∧ k + j ∉ bs
  | [], _, _, h => by cases h
  | x :: L, k, o, h => by
    unfold floatsFrom at h
    split at h
    · obtain ⟨j, hj, hn⟩ := floatsFrom_idx L (k + 1) o h
      exact ⟨j + 1, by rw [List.getElem?_cons_succ]; exact hj, by rw [show k + (j + 1) = k + 1 + j by omega]; exact hn⟩
    · rename_i hb
      rcases List.mem_cons.1 h with rfl | h
      · exact ⟨0, rfl, by simpa using hb⟩
      · obtain ⟨j, hj, hn⟩ := floatsFrom_idx L (k + 1) o h
        exact ⟨j + 1, by rw [List.getElem?_cons_succ]; exact hj, by rw [show k + (j + 1) = k + 1 + j by omega]; exact hn⟩

/-- **THE RULE, WITH CALLS IN ONE ORDER.** -/
theorem wpIn_region_mixed {id : Nat} {L : List Oper} {a : Act} {w : World} (bs : List Nat) (vs : List Value) (I : World → Prop) {tm : Array Value}
    (hm : P.follows .mixedOrders = true) (hok : mixOk bs a.tmps.size L.toArray = true) (htm : fillT (floatsFrom bs 0 L) vs a.tmps = tm) (hnd : bs.Nodup)
    (hfloat : ∀ w', I w' → AllIn F n P L.toArray { tmps := tm, defers := a.defers } (fun x => x = w') w' (floatsFrom bs 0 L))
    (hchain : ChainIn F n P L.toArray I Q bs { tmps := tm, defers := a.defers } w.drew) :
    (Code.region id L.toArray true).wpIn F n P Q a w := by
  subst htm
  have hsz : (fillT (floatsFrom bs 0 L) vs a.tmps).size = a.tmps.size := fillT_size _ _ _
  have hf : MixFacts bs ({ tmps := fillT (floatsFrom bs 0 L) vs a.tmps, defers := a.defers } : Act).tmps.size L.toArray := by
    show MixFacts bs (fillT (floatsFrom bs 0 L) vs a.tmps).size L.toArray
    rw [hsz]; exact mixFacts hok
  refine wpIn_region_any hm ?_
  have hcount : unlisted L.toArray.size (Array.replicate L.toArray.size false) = L.toArray.size := by
    have := unlisted_from (m := 0) (N := L.toArray.size) (l := Array.replicate L.toArray.size false) (Nat.zero_le _) (by simp) (fun j _ hj => by
      rw [Array.getD_eq_getD_getElem?, Array.getElem?_eq_getElem (by simpa using hj)]; simp) (fun i hi => by omega)
    simpa using this
  have hl : ∀ i, i < L.toArray.size → (Array.replicate L.toArray.size false).getD i true = false := fun i hi => by
    rw [Array.getD_eq_getD_getElem?, Array.getElem?_eq_getElem (by simpa using hi)]; simp
  refine mix_sound hf (fun i o hi ho w' hI => ?_) _ bs _ { tmps := fillT (floatsFrom bs 0 L) vs a.tmps, defers := a.defers } a _ hcount hnd ⟨by simp, fun b hb => hl b (hf.inB b hb), ⟨[], rfl, fun b hb => by cases hb⟩, fun b o hb hdone => ?_, rfl, hsz.symm, fun t ht => ?_⟩ rfl (fun _ _ => rfl) hchain
  · exact (hfloat w' hI).get (floatsFrom_mem L 0 i o (by simpa using ho) (by rw [Nat.zero_add]; exact hi))
  · rw [hl b (Array.getElem?_eq_some_iff.1 hb).1] at hdone
    cases hdone
  · refine (fillT_other _ _ _ fun o ho e => ?_).symm
    obtain ⟨j, hj, hn⟩ := floatsFrom_idx L 0 o ho
    have hoj : L.toArray[j]? = some o := by simpa using hj
    exact ht j o (by simpa using hn) hoj (hl j (Array.getElem?_eq_some_iff.1 hoj).1) e
end

end Go.Proofs.Ytknibnbepmdapaa

/-
A region that draws its order and makes memory in it: of each operation it is known only how its value stands to the world behind it; what is known is kept while memory is made.
-/
namespace Go.Proofs.Ytknibnbepmdapaa
open Go Go.RowKit

def relOp (size : Nat) (ops : Array Oper) (i : Nat) (o : Oper) : Bool :=
  (match o.op with | .select _ _ => false | .defer _ => false | _ => true) &&
  (match o.dst with | some d => decide (d < size) | none => false) &&
  ((List.range ops.size).all fun j => j == i || (match o.dst, (ops[j]?).bind (·.dst) with | some d, some d' => d != d' | _, _ => true)) &&
  ((binding o).all fun k => decide (k < i))

def relOk (size : Nat) (ops : Array Oper) : Bool :=
  (List.range ops.size).all fun i => match ops[i]? with | some o => relOp size ops i o | none => false

structure RelFacts (size : Nat) (ops : Array Oper) : Prop where
  calm : ∀ (i : Nat) (o : Oper), ops[i]? = some o → (∀ cs b, o.op ≠ .select cs b) ∧ ∀ c, o.op ≠ .defer c
  dst : ∀ (i : Nat) (o : Oper), ops[i]? = some o → ∃ d, o.dst = some d ∧ d < size
  apart : ∀ (i j : Nat) (o o' : Oper) (d : Nat), j ≠ i → ops[i]? = some o → ops[j]? = some o' → o.dst = some d → o'.dst ≠ some d
  up : ∀ (i : Nat) (o : Oper) (k : Nat), ops[i]? = some o → k ∈ binding o → k < i

theorem relFacts {size : Nat} {ops : Array Oper} (h : relOk size ops = true) : RelFacts size ops := by
  have hparts : ∀ i o, ops[i]? = some o → _ := fun i o ho => by
    have := List.all_eq_true.1 h i (List.mem_range.2 (Array.getElem?_eq_some_iff.1 ho).1)
    rw [ho] at this
    simp only at this
    unfold relOp at this
    simp only [Bool.and_eq_true] at this
    exact this
  refine ⟨?_, ?_, ?_, ?_⟩
  · intro i o ho
    obtain ⟨⟨⟨h1, _⟩, _⟩, _⟩ := hparts i o ho
    constructor
    · intro cs b e; rw [e] at h1; simp at h1
    · intro c e; rw [e] at h1; simp at h1
  · intro i o ho
    obtain ⟨⟨⟨_, h1⟩, _⟩, _⟩ := hparts i o ho
    cases hd : o.dst with
    | none => rw [hd] at h1; cases h1
    | some d => rw [hd] at h1; exact ⟨d, rfl, by simpa using h1⟩
  · intro i j o o' d hij ho ho' hd hd'
    obtain ⟨⟨_, h1⟩, _⟩ := hparts i o ho
    have := List.all_eq_true.1 h1 j (List.mem_range.2 (Array.getElem?_eq_some_iff.1 ho').1)
    rw [ho', hd] at this
    simp [hd', hij] at this
  · intro i o k ho hk
    obtain ⟨_, h1⟩ := hparts i o ho
    have := List.all_eq_true.1 h1 k hk
    simpa using this

/-- The frame whose operations' slots hold what f says. -/
def relFrame (L : List Oper) (a : Act) (f : Nat → Value) : Act := { tmps := fillT L (L.map fun o => f (o.dst.getD 0)) a.tmps, defers := a.defers }

theorem fillF_get (f : Nat → Value) (x : Nat) : ∀ (L : List Oper) (T : Array Value), (fillT L (L.map fun o => f (o.dst.getD 0)) T)[x]? = if (∃ o ∈ L, o.dst = some x) ∧ x < T.size then some (f x) else T[x]?
  | [], T => by simp [fillT]
  | o :: L, T => by
    rw [List.map_cons]
    cases hd : o.dst with
    | none =>
      simp only [fillT, hd]
      rw [fillF_get f x L]
      have e : (∃ o' ∈ o :: L, o'.dst = some x) ↔ ∃ o' ∈ L, o'.dst = some x := by
        constructor
        · rintro ⟨o', ho', hd'⟩
          rcases List.mem_cons.1 ho' with rfl | ho'
          · rw [hd] at hd'; cases hd'
          · exact ⟨o', ho', hd'⟩
        · rintro ⟨o', ho', hd'⟩; exact ⟨o', List.mem_cons_of_mem _ ho', hd'⟩
      simp only [e]
    | some d =>
      simp only [fillT, hd, Option.getD_some]
      rw [fillF_get f x L, Array.size_setIfInBounds]
      by_cases h1 : ∃ o' ∈ L, o'.dst = some x
      · obtain ⟨o', ho', hd'⟩ := h1
        by_cases hx : x < T.size
        · rw [if_pos ⟨⟨o', ho', hd'⟩, hx⟩, if_pos ⟨⟨o', List.mem_cons_of_mem _ ho', hd'⟩, hx⟩]
        · rw [if_neg (fun h => hx h.2), if_neg (fun h => hx h.2), Array.getElem?_setIfInBounds]
          split
          · rename_i e; subst e; rw [if_neg hx]; exact (Array.getElem?_eq_none (by omega)).symm
          · rfl
      · rw [if_neg (fun h => h1 h.1)]
        by_cases h2 : d = x
        · subst h2
          by_cases hx : d < T.size
          · rw [if_pos ⟨⟨o, List.mem_cons_self, hd⟩, hx⟩]
            simp [hx]
          · rw [if_neg (fun h => hx h.2), Array.getElem?_setIfInBounds_self, if_neg hx]
            exact (Array.getElem?_eq_none (xs := T) (i := d) (Nat.le_of_not_lt hx)).symm
        · rw [if_neg, Array.getElem?_setIfInBounds_ne h2]
          rintro ⟨⟨o', ho', hd'⟩, _⟩
          rcases List.mem_cons.1 ho' with rfl | ho'
          · rw [hd] at hd'; cases hd'; exact h2 rfl
          · exact h1 ⟨o', ho', hd'⟩

def updF (f : Nat → Value) (d : Nat) (v : Value) : Nat → Value := fun x => if x = d then v else f x

theorem relFrame_put {L : List Oper} {a : Act} {f : Nat → Value} {o : Oper} {d : Nat} (ho : o ∈ L) (hd : o.dst = some d) (v : Value) : (relFrame L a f).put o.dst v = relFrame L a (updF f d v) := by
  rw [hd]
  show ({ tmps := (fillT L (L.map fun o => f (o.dst.getD 0)) a.tmps).setIfInBounds d v, defers := a.defers } : Act) = { tmps := fillT L (L.map fun o => updF f d v (o.dst.getD 0)) a.tmps, defers := a.defers }
  congr 1
  apply Array.ext_getElem?
  intro x
  rw [fillF_get]
  by_cases e : d = x
  · subst e
    rw [Array.getElem?_setIfInBounds_self, fillT_size]
    by_cases hx : d < a.tmps.size
    · rw [if_pos hx, if_pos ⟨⟨o, ho, hd⟩, hx⟩]; simp [updF]
    · rw [if_neg hx, if_neg (fun h => hx h.2), Array.getElem?_eq_none (by omega)]
  · rw [Array.getElem?_setIfInBounds_ne e, fillF_get]
    have : updF f d v x = f x := by unfold updF; rw [if_neg (fun h => e h.symm)]
    rw [this]

theorem relFrame_self (L : List Oper) (a : Act) : relFrame L a (fun d => a.tmps.getD d undef) = a := by
  obtain ⟨t, df⟩ := a
  show ({ tmps := fillT L (L.map fun o => (fun d => t.getD d undef) (o.dst.getD 0)) t, defers := df } : Act) = { tmps := t, defers := df }
  congr 1
  apply Array.ext_getElem?
  intro x
  rw [fillF_get (fun d => t.getD d undef)]
  split
  · rename_i h
    simp only [Array.getD_eq_getD_getElem?, Array.getElem?_eq_getElem h.2, Option.getD_some]
  · rfl

def RelAt (Rel : Nat → Value → World → Prop) (ops : Array Oper) (f : Nat → Value) (w : World) (j : Nat) : Prop := ∀ o d, ops[j]? = some o → o.dst = some d → Rel j (f d) w

section
variable {F : Fence} {n : Nat} {P : Program} {L : List Oper} {Q : Exit → Act → World → Prop} {a : Act} {w0 : World} {Rel : Nat → Value → World → Prop}

def RelStep (F : Fence) (n : Nat) (P : Program) (L : List Oper) (Rel : Nat → Value → World → Prop) (a : Act) (w : World) (i : Nat) (o : Oper) : Prop :=
  wpListIn F n P L.toArray (PostC a fun a' w' => ∃ v, a' = a.put o.dst v ∧ Rel i v w' ∧ Below w.heap.size w w') [o] a w

theorem below_all {w0 w w' : World} (h : Below w0.heap.size w0 w) (k : Below w.heap.size w w') : Below w0.heap.size w0 w' := h.trans (k.mono h.size)

theorem rel_sound (hf : RelFacts a.tmps.size L.toArray) (hstab : ∀ i v w1 w2, Rel i v w1 → Below w1.heap.size w1 w2 → Rel i v w2)
    (hstep : ∀ (f : Nat → Value) (w : World), Below w0.heap.size w0 w → ∀ i o, L[i]? = some o → (∀ j ∈ binding o, RelAt Rel L.toArray f w j) → RelStep F n P L Rel (relFrame L a f) w i o)
    (hend : ∀ (f : Nat → Value) (w : World), Below w0.heap.size w0 w → (∀ j, j < L.length → RelAt Rel L.toArray f w j) → Q .normal (relFrame L a f) w) :
    ∀ (d : Nat) (l : Array Bool) (f : Nat → Value) (w : World), unlisted L.toArray.size l = d → l.size = L.toArray.size → (∀ j, j < L.toArray.size → l.getD j true = true → RelAt Rel L.toArray f w j) → Below w0.heap.size w0 w →
      wpAnyIn F n P .any L.toArray Q d l (relFrame L a f) w := by
  intro d
  induction d with
  | zero =>
    intro l f w hd hs hR hb
    have hall : ∀ j, j < L.toArray.size → l.getD j true = true := fun j hj => unlisted_all hd hj
    refine ⟨?_, hend f w hb fun j hj => hR j (by simpa using hj) (hall j (by simpa using hj))⟩
    rw [List.eq_nil_iff_forall_not_mem]
    intro i hi
    obtain ⟨o, ho, h1, _⟩ := mem_ready.1 hi
    rw [hall i (Array.getElem?_eq_some_iff.1 ho).1] at h1
    cases h1
  | succ d ih =>
    intro l f w hd hs hR hb
    obtain ⟨i0, hi0, hb0, hmin⟩ := unlisted_some (N := L.toArray.size) (l := l) (by omega)
    have hr0 : i0 ∈ Region.ready .any L.toArray l := mem_ready.2 ⟨L.toArray[i0], Array.getElem?_eq_getElem hi0, hb0, fun k hk => by
      have := hf.up i0 _ k (Array.getElem?_eq_getElem hi0) hk
      rw [getD_lt (by rw [hs]; omega) false true]
      exact hmin k this⟩
    refine ⟨fun h0 => by rw [h0] at hr0; simp at hr0, fun i hi => ?_⟩
    obtain ⟨o, ho, h1, h2⟩ := mem_ready.1 hi
    have his : i < L.toArray.size := (Array.getElem?_eq_some_iff.1 ho).1
    have hil : i < l.size := by rw [hs]; exact his
    have hdec : unlisted L.toArray.size (l.setIfInBounds i true) = d := by
      have hlt := unlisted_set (n := L.toArray.size) his hil h1
      have hge := unlisted_dec (N := L.toArray.size) hil
      omega
    obtain ⟨dd, hdd, hds⟩ := hf.dst i o ho
    obtain ⟨_, hdef⟩ := hf.calm i o ho
    have hoL : L[i]? = some o := by simpa using ho
    unfold wpOpIn
    rw [ho]
    simp only
    have hop := hstep f w hb i o hoL fun j hj => hR j (by have := hf.up i o j ho hj; omega) (getD_false (h2 j hj))
    have hgo : ∀ v w', (∃ v', (relFrame L a f).put o.dst v = (relFrame L a f).put o.dst v' ∧ Rel i v' w' ∧ Below w.heap.size w w') → wpAnyIn F n P .any L.toArray Q d (l.setIfInBounds i true) ((relFrame L a f).put o.dst v) w' := by
      intro v w' hv
      obtain ⟨v', hv', hrel, hbw⟩ := hv
      rw [hv', relFrame_put (List.mem_of_getElem? hoL) hdd]
      refine ih _ _ _ hdec (by rw [Array.size_setIfInBounds]; exact hs) (fun j hj hdone => ?_) (below_all hb hbw)
      intro oj dj hoj hdj
      by_cases hji : j = i
      · subst hji
        rw [ho] at hoj; cases hoj
        rw [hdd] at hdj; cases hdj
        unfold updF; rw [if_pos rfl]; exact hrel
      · rw [getD_set hil, if_neg hji] at hdone
        have hne : dj ≠ dd := fun e => hf.apart i j o oj dd hji ho hoj hdd (by rw [hdj, e])
        unfold updF; rw [if_neg hne]
        exact hstab j _ w w' (hR j hj hdone oj dj hoj hdj) hbw
    unfold RelStep at hop
    simp only [wpListIn] at hop
    split
    · rename_i hw
      rw [if_pos hw] at hop
      refine ⟨hop.1, ?_⟩
      exact upon_chainIn hop.2 fun v w' hv => hgo v w' hv
    · rename_i hw
      rw [if_neg hw] at hop
      exact ⟨hop.1, hgo undef w hop.2.2⟩

/-- The steps, one behind the other. -/
def AllRel (F : Fence) (n : Nat) (P : Program) (L : List Oper) (Rel : Nat → Value → World → Prop) (a : Act) (f : Nat → Value) (w : World) : Nat → List Oper → Prop
  | _, [] => True
  | i, o :: os => ((∀ j ∈ binding o, RelAt Rel L.toArray f w j) → RelStep F n P L Rel a w i o) ∧ AllRel F n P L Rel a f w (i + 1) os

theorem AllRel.get {f : Nat → Value} {w : World} : ∀ {os : List Oper} {k i : Nat} {o : Oper}, AllRel F n P L Rel a f w k os → os[i]? = some o → (∀ j ∈ binding o, RelAt Rel L.toArray f w j) → RelStep F n P L Rel a w (k + i) o
  | [], _, _, _, _, h => by simp at h
  | x :: os, k, 0, o, h, ho => by
    simp only [List.getElem?_cons_zero, Option.some.injEq] at ho
    subst ho
    exact h.1
  | x :: os, k, i + 1, o, h, ho => by
    rw [List.getElem?_cons_succ] at ho
    have := AllRel.get (k := k + 1) (i := i) h.2 ho
    rwa [show k + 1 + i = k + (i + 1) by omega] at this

/-- **THE RULE, WHERE EACH VALUE IS KNOWN ONLY AS IT STANDS TO THE WORLD.** -/
theorem wpIn_region_rel {id : Nat} {w : World} (Rel : Nat → Value → World → Prop)
    (hm : P.follows .mixedOrders = true) (hok : relOk a.tmps.size L.toArray = true)
    (hstab : ∀ i v w1 w2, Rel i v w1 → Below w1.heap.size w1 w2 → Rel i v w2)
    (hstep : ∀ (f : Nat → Value) (w' : World), Below w.heap.size w w' → AllRel F n P L Rel (relFrame L a f) f w' 0 L)
    (hend : ∀ (f : Nat → Value) (w' : World), Below w.heap.size w w' → (∀ j, j < L.length → RelAt Rel L.toArray f w' j) → Q .normal (relFrame L a f) w') :
    (Code.region id L.toArray true).wpIn F n P Q a w := by
  refine wpIn_region_any hm ?_
  have hcount : unlisted L.toArray.size (Array.replicate L.toArray.size false) = L.toArray.size := by
    have := unlisted_from (m := 0) (N := L.toArray.size) (l := Array.replicate L.toArray.size false) (Nat.zero_le _) (by simp) (fun j _ hj => by
      rw [Array.getD_eq_getD_getElem?, Array.getElem?_eq_getElem (by simpa using hj)]; simp) (fun i hi => by omega)
    simpa using this
  have := rel_sound (F := F) (n := n) (P := P) (Q := Q) (w0 := w) (Rel := Rel) (relFacts hok) hstab (fun f w' hb i o ho hd => by have := (hstep f w' hb).get ho hd; rwa [Nat.zero_add] at this) hend _ (Array.replicate L.toArray.size false) (fun d => a.tmps.getD d undef) w.drew hcount (by simp) (fun j hj hdone => by
    rw [Array.getD_eq_getD_getElem?, Array.getElem?_eq_getElem (by simpa using hj)] at hdone; simp at hdone) (Below.refl _ _).drew
  rwa [relFrame_self] at this
end
end Go.Proofs.Ytknibnbepmdapaa
