/-
The rule for regions with calls in one order, where the last of them follows all else through others.
-/
import Derived.Test.YtknibnbepmdapaaReg4
namespace Go.Proofs.Ytknibnbepmdapaa
open Go

/-- What is bound to some operations, through others. -/
def clo (ops : Array Oper) : Nat → List Nat → List Nat
  | 0, S => S
  | n + 1, S => clo ops n ((List.range ops.size).filter fun i => S.contains i || S.any fun j => match ops[j]? with | some o => (binding o).contains i | none => false)

theorem clo_done {ops : Array Oper} {l : Array Bool} (hc : ∀ b o, ops[b]? = some o → l.getD b true = true → ∀ k ∈ binding o, l.getD k true = true) : ∀ (n : Nat) (S : List Nat), (∀ j ∈ S, l.getD j true = true) → ∀ i ∈ clo ops n S, l.getD i true = true
  | 0, S, h, i, hi => h i hi
  | n + 1, S, h, i, hi => by
    refine clo_done hc n _ (fun j hj => ?_) i hi
    rw [List.mem_filter] at hj
    obtain ⟨_, hj⟩ := hj
    rw [Bool.or_eq_true] at hj
    rcases hj with hj | hj
    · exact h j (List.contains_iff_mem.1 hj)
    · obtain ⟨b, hb, hjb⟩ := List.any_eq_true.1 hj
      cases ho : ops[b]? with
      | none => rw [ho] at hjb; cases hjb
      | some o => rw [ho] at hjb; exact hc b o ho (h b hb) j (List.contains_iff_mem.1 hjb)

def mixOkC (bs : List Nat) (size : Nat) (ops : Array Oper) : Bool :=
  ((List.range ops.size).all fun i => match ops[i]? with | some o => mixOp bs size ops i o | none => false) && chainB ops bs && bs.all (fun b => decide (b < ops.size)) && decide (bs.Nodup) &&
  (match bs.getLast? with | some e => (List.range ops.size).all (fun i => bs.contains i || (clo ops ops.size [e]).contains i) | none => false)

structure MixFactsC (bs : List Nat) (size : Nat) (ops : Array Oper) : Prop where
  calm : ∀ (i : Nat) (o : Oper), ops[i]? = some o → (∀ cs b, o.op ≠ .select cs b) ∧ ∀ c, o.op ≠ .defer c
  plain : ∀ (i : Nat) (o : Oper), ops[i]? = some o → o.guard = none
  dst : ∀ (i : Nat) (o : Oper), ops[i]? = some o → i ∉ bs → ∃ d, o.dst = some d ∧ d < size
  apart : ∀ (i j : Nat) (o o' : Oper) (d : Nat), j ≠ i → j ∉ bs → ops[i]? = some o → ops[j]? = some o' → o.dst = some d → o'.dst ≠ some d
  needA : ∀ (i j : Nat) (o o' : Oper) (t : Nat), j ∉ bs → ops[i]? = some o → ops[j]? = some o' → o'.dst = some t → .tmp t ∈ o.op.operands → j ∈ binding o
  needB : ∀ (i j : Nat) (o o' : Oper) (t : Nat), i ∉ bs → j ∈ bs → ops[i]? = some o → ops[j]? = some o' → o'.dst = some t → .tmp t ∉ o.op.operands
  up : ∀ (i : Nat) (o : Oper) (k : Nat), ops[i]? = some o → k ∈ binding o → k < i
  chain : chainB ops bs = true
  inB : ∀ b ∈ bs, b < ops.size
  last : ∃ e ∈ bs, ∀ i, i < ops.size → i ∉ bs → i ∈ clo ops ops.size [e]

theorem mixFactsC {bs : List Nat} {size : Nat} {ops : Array Oper} (h : mixOkC bs size ops = true) : MixFactsC bs size ops := by
  unfold mixOkC at h
  simp only [Bool.and_eq_true, decide_eq_true_eq] at h
  obtain ⟨⟨⟨⟨hA, hch⟩, hin⟩, _⟩, hlast⟩ := h
  have hop : ∀ i o, ops[i]? = some o → mixOp bs size ops i o = true := fun i o ho => by
    have := List.all_eq_true.1 hA i (List.mem_range.2 (Array.getElem?_eq_some_iff.1 ho).1); rw [ho] at this; exact this
  have hparts : ∀ i o, ops[i]? = some o → _ := fun i o ho => by
    have := hop i o ho
    unfold mixOp at this
    simp only [Bool.and_eq_true] at this
    exact this
  refine ⟨?_, ?_, ?_, ?_, ?_, ?_, ?_, hch, fun b hb => by simpa using List.all_eq_true.1 hin b hb, ?_⟩
  rotate_right
  · cases hl : bs.getLast? with
    | none => rw [hl] at hlast; cases hlast
    | some e =>
      rw [hl] at hlast
      refine ⟨e, List.mem_of_getLast? hl, fun i hi hn => ?_⟩
      have h1 := List.all_eq_true.1 hlast i (List.mem_range.2 hi)
      simp only [Bool.or_eq_true, List.contains_iff_mem] at h1
      rcases h1 with h1 | h1
      · exact absurd h1 hn
      · exact h1
  · intro i o ho
    obtain ⟨⟨⟨⟨⟨h1, _⟩, _⟩, _⟩, _⟩, _⟩ := hparts i o ho
    constructor
    · intro cs b e; rw [e] at h1; simp at h1
    · intro c e; rw [e] at h1; simp at h1
  · intro i o ho
    obtain ⟨⟨⟨⟨⟨_, h1⟩, _⟩, _⟩, _⟩, _⟩ := hparts i o ho
    exact Option.isNone_iff_eq_none.1 h1
  · intro i o ho hi
    obtain ⟨⟨⟨⟨_, h1⟩, _⟩, _⟩, _⟩ := hparts i o ho
    cases hd : o.dst with
    | none => rw [hd] at h1; exact absurd (List.contains_iff_mem.1 h1) hi
    | some d => rw [hd] at h1; exact ⟨d, rfl, by simpa using h1⟩
  · intro i j o o' d hij hj ho ho' hd hd'
    obtain ⟨⟨⟨_, h1⟩, _⟩, _⟩ := hparts i o ho
    have := List.all_eq_true.1 h1 j (List.mem_range.2 (Array.getElem?_eq_some_iff.1 ho').1)
    rw [ho', hd] at this
    simp [hd', hij, hj] at this
  · intro i j o o' t hj ho ho' ht hx
    obtain ⟨⟨_, h1⟩, _⟩ := hparts i o ho
    have := List.all_eq_true.1 h1 j (List.mem_range.2 (Array.getElem?_eq_some_iff.1 ho').1)
    rw [ho'] at this
    rw [if_neg (by simpa using hj)] at this
    simp only [Option.bind_some, ht, Bool.or_eq_true, List.contains_iff_mem, List.all_eq_true] at this
    rcases this with this | this
    · exact this
    · have := this (.tmp t) (Array.mem_toList_iff.2 hx)
      simp at this
  · intro i j o o' t hi hj ho ho' ht hx
    obtain ⟨⟨_, h1⟩, _⟩ := hparts i o ho
    have := List.all_eq_true.1 h1 j (List.mem_range.2 (Array.getElem?_eq_some_iff.1 ho').1)
    rw [ho'] at this
    rw [if_pos (by simpa using hj)] at this
    simp only [Option.bind_some, ht, Bool.or_eq_true, List.contains_iff_mem, List.all_eq_true] at this
    rcases this with this | this
    · exact hi this
    · have := this (.tmp t) (Array.mem_toList_iff.2 hx)
      simp at this
  · intro i o k ho hk
    obtain ⟨_, h1⟩ := hparts i o ho
    have := List.all_eq_true.1 h1 k hk
    simpa using this



section
variable {bs rs : List Nat} {ops : Array Oper} {aC a : Act} {l : Array Bool}

theorem MixState.seesC (hs : MixState bs ops rs aC l a) (hf : MixFactsC bs aC.tmps.size ops) {i : Nat} {o : Oper} (ho : ops[i]? = some o) (hb : ∀ k ∈ binding o, l.getD k false = true) :
    ∀ x ∈ o.op.operands, a.eval x = aC.eval x := by
  intro x hx
  cases x with
  | tmp t =>
    show a.tmps.getD t undef = aC.tmps.getD t undef
    rw [Array.getD_eq_getD_getElem?, Array.getD_eq_getD_getElem?]
    congr 1
    refine hs.same t fun j o' hj ho' hl e => ?_
    have := hb j (hf.needA i j o o' t hj ho ho' e hx)
    have h2 := getD_false this
    rw [hl] at h2
    cases h2
  | const v => rfl
  | global g => rfl
  | func f => rfl

end

section
variable {F : Fence} {n : Nat} {P : Program} {bs : List Nat} {ops : Array Oper} {Q : Exit → Act → World → Prop} {aV : Act} {I : World → Prop}

theorem mix_soundC (hf : MixFactsC bs aV.tmps.size ops) (hfloat : ∀ i o, i ∉ bs → ops[i]? = some o → ∀ w, I w → wpListIn F n P ops (PostA aV (fun w' => w' = w)) [o] aV w) :
    ∀ (d : Nat) (rs : List Nat) (l : Array Bool) (aC a : Act) (w : World), unlisted ops.size l = d → rs.Nodup → MixState bs ops rs aC l a → aC.tmps.size = aV.tmps.size →
      (∀ t, (∀ b ∈ bs, ∀ o, ops[b]? = some o → o.dst ≠ some t) → aC.tmps[t]? = aV.tmps[t]?) → ChainIn F n P ops I Q rs aC w → wpAnyIn F n P .any ops Q d l a w := by
  intro d
  induction d with
  | zero =>
    intro rs l aC a w hd hn hs hsz hCV hch
    have hall : ∀ j, j < ops.size → l.getD j true = true := fun j hj => unlisted_all hd hj
    have hr : Region.ready .any ops l = [] := by
      rw [List.eq_nil_iff_forall_not_mem]
      intro i hi
      obtain ⟨o, ho, h1, _⟩ := mem_ready.1 hi
      rw [hall i (Array.getElem?_eq_some_iff.1 ho).1] at h1
      cases h1
    refine ⟨hr, ?_⟩
    cases rs with
    | cons b rs =>
      exfalso
      obtain ⟨ps, hps, _⟩ := hs.past
      have hb := hf.inB b (by rw [hps]; exact List.mem_append_right _ List.mem_cons_self)
      have h1 := hs.rest b List.mem_cons_self
      rw [hall b hb] at h1
      cases h1
    | nil =>
      have hae : a = aC := by
        have ht : a.tmps = aC.tmps := by
          apply Array.ext_getElem?
          intro t
          refine hs.same t fun i o _ ho hl => ?_
          rw [hall i (Array.getElem?_eq_some_iff.1 ho).1] at hl
          cases hl
        have hdf := hs.defers
        obtain ⟨t, d⟩ := a
        obtain ⟨t', d'⟩ := aC
        simp only at ht hdf
        rw [ht, hdf]
      rw [hae]
      exact hch
  | succ d ih =>
    intro rs l aC a w hd hn hs hsz hCV hch
    have hfC : MixFactsC bs aC.tmps.size ops := by rw [hsz]; exact hf
    obtain ⟨i0, hi0, hb0, hmin⟩ := unlisted_some (N := ops.size) (l := l) (by omega)
    have hr0 : i0 ∈ Region.ready .any ops l := mem_ready.2 ⟨ops[i0], Array.getElem?_eq_getElem hi0, hb0, fun k hk => by
      have := hf.up i0 _ k (Array.getElem?_eq_getElem hi0) hk
      rw [getD_lt (by rw [hs.size]; omega) false true]
      exact hmin k this⟩
    refine ⟨fun h0 => by rw [h0] at hr0; simp at hr0, fun i hi => ?_⟩
    obtain ⟨o, ho, h1, h2⟩ := mem_ready.1 hi
    have his : i < ops.size := (Array.getElem?_eq_some_iff.1 ho).1
    have hil : i < l.size := by rw [hs.size]; exact his
    have hdec : unlisted ops.size (l.setIfInBounds i true) = d := by
      have hlt := unlisted_set (n := ops.size) his hil h1
      have hge := unlisted_dec (N := ops.size) hil
      omega
    have hpl := hf.plain i o ho
    have hw : ∀ t : Array Value, Region.wanted o (yielded ops t) = true := fun t => by unfold Region.wanted; rw [hpl]
    have heval := hs.seesC hfC ho h2
    obtain ⟨hsel, hdef⟩ := hf.calm i o ho
    unfold wpOpIn
    rw [ho]
    simp only
    rw [if_pos (hw _)]
    by_cases hib : i ∈ bs
    · obtain ⟨ps, hps, hpast⟩ := hs.past
      have hir : i ∈ rs := by
        rw [hps] at hib
        rcases List.mem_append.1 hib with h | h
        · rw [hpast i h] at h1; cases h1
        · exact h
      cases rs with
      | nil => cases hir
      | cons b rs =>
        have hbi : b = i := by
          rcases List.mem_cons.1 hir with h | h
          · exact h.symm
          · exfalso
            obtain ⟨p, hp, hpb⟩ := chain_pred ho rs b (chain_suffix (ps := ps) (by rw [← hps]; exact hf.chain)) h
            have h3 := getD_false (h2 p hpb)
            rw [hs.rest p hp] at h3
            cases h3
        subst hbi
        rw [List.nodup_cons] at hn
        have hop := hch.2 o ho
        simp only [wpListIn] at hop
        rw [if_pos (hw _)] at hop
        refine ⟨fun f hfa => hop.1 f (by rw [← about_congr o w heval]; exact hfa), ?_⟩
        have h3 := hop.2
        rw [Oper.semAt_eq _ _ _ hdef] at h3 ⊢
        rw [execOp_congr o hsel heval]
        refine upon_chainIn h3 fun v w' hv => ih rs _ _ _ w' hdec hn.2 (hs.step v hib ho hn.1 fun k hk => getD_false (h2 k hk)) ?_ (fun t ht => ?_) hv
        · rw [← hsz]
          cases hd : o.dst with
          | none => rfl
          | some dd => show (aC.tmps.setIfInBounds dd v).size = _; rw [Array.size_setIfInBounds]
        · rw [← hCV t ht]
          cases hd : o.dst with
          | none => rfl
          | some dd =>
            show (aC.tmps.setIfInBounds dd v)[t]? = _
            exact Array.getElem?_setIfInBounds_ne (fun e => ht b hib o ho (by rw [hd, e]))
    · obtain ⟨dd, hdd, hds⟩ := hf.dst i o ho hib
      have hinv : I w := by
        cases rs with
        | cons b rs => exact hch.1
        | nil =>
          exfalso
          obtain ⟨ps, hps, hpast⟩ := hs.past
          rw [List.append_nil] at hps
          obtain ⟨e, he, hall⟩ := hf.last
          have h4 := clo_done hs.closed _ [e] (fun j hj => by rw [List.mem_singleton] at hj; rw [hj]; exact hpast e (by rw [← hps]; exact he)) i (hall i his hib)
          rw [h1] at h4
          cases h4
      have hop := hfloat i o hib ho w hinv
      simp only [wpListIn] at hop
      rw [if_pos (hw _)] at hop
      have hevV : ∀ x ∈ o.op.operands, a.eval x = aV.eval x := fun x hx => by
        rw [heval x hx]
        cases x with
        | tmp t =>
          show aC.tmps.getD t undef = aV.tmps.getD t undef
          rw [Array.getD_eq_getD_getElem?, Array.getD_eq_getD_getElem?, hCV t fun b hb o' ho' e => hf.needB i b o o' t hib hb ho ho' e hx]
        | const v => rfl
        | global g => rfl
        | func f => rfl
      refine ⟨fun f hfa => hop.1 f (by rw [← about_congr o w hevV]; exact hfa), ?_⟩
      have h3 := hop.2
      rw [Oper.semAt_eq _ _ _ hdef] at h3 ⊢
      rw [execOp_congr o hsel hevV]
      refine upon_transferIn (I := fun w' => w' = w) h3 fun v w' hv hI' => ?_
      subst hI'
      have hvd : aV.tmps[dd]? = some v := by
        have h4 : aV.tmps.setIfInBounds dd v = aV.tmps := by have := congrArg Act.tmps hv; rw [hdd] at this; exact this
        rw [← h4, Array.getElem?_setIfInBounds_self]
        simp [hds]
      refine ih rs _ aC _ w' hdec hn (hs.float hib ho hdd ?_ fun k hk => getD_false (h2 k hk)) hsz hCV hch
      rw [hCV dd fun b hb o' ho' e => hf.apart b i o' o dd (fun e => hib (by rw [e]; exact hb)) hib ho' ho e hdd]
      exact hvd

/-- **THE RULE, WITH CALLS IN ONE ORDER.** -/
theorem wpIn_region_mixedC {id : Nat} {L : List Oper} {a : Act} {w : World} (bs : List Nat) (vs : List Value) (I : World → Prop) {tm : Array Value}
    (hm : P.follows .mixedOrders = true) (hok : mixOkC bs a.tmps.size L.toArray = true) (htm : fillT (floatsFrom bs 0 L) vs a.tmps = tm) (hnd : bs.Nodup)
    (hfloat : ∀ w', I w' → AllIn F n P L.toArray { tmps := tm, defers := a.defers } (fun x => x = w') w' (floatsFrom bs 0 L))
    (hchain : ChainIn F n P L.toArray I Q bs { tmps := tm, defers := a.defers } w.drew) :
    (Code.region id L.toArray true).wpIn F n P Q a w := by
  subst htm
  have hsz : (fillT (floatsFrom bs 0 L) vs a.tmps).size = a.tmps.size := fillT_size _ _ _
  have hf : MixFactsC bs ({ tmps := fillT (floatsFrom bs 0 L) vs a.tmps, defers := a.defers } : Act).tmps.size L.toArray := by
    show MixFactsC bs (fillT (floatsFrom bs 0 L) vs a.tmps).size L.toArray
    rw [hsz]; exact mixFactsC hok
  refine wpIn_region_any hm ?_
  have hcount : unlisted L.toArray.size (Array.replicate L.toArray.size false) = L.toArray.size := by
    have := unlisted_from (m := 0) (N := L.toArray.size) (l := Array.replicate L.toArray.size false) (Nat.zero_le _) (by simp) (fun j _ hj => by
      rw [Array.getD_eq_getD_getElem?, Array.getElem?_eq_getElem (by simpa using hj)]; simp) (fun i hi => by omega)
    simpa using this
  have hl : ∀ i, i < L.toArray.size → (Array.replicate L.toArray.size false).getD i true = false := fun i hi => by
    rw [Array.getD_eq_getD_getElem?, Array.getElem?_eq_getElem (by simpa using hi)]; simp
  refine mix_soundC hf (fun i o hi ho w' hI => ?_) _ bs _ { tmps := fillT (floatsFrom bs 0 L) vs a.tmps, defers := a.defers } a _ hcount hnd ⟨by simp, fun b hb => hl b (hf.inB b hb), ⟨[], rfl, fun b hb => by cases hb⟩, fun b o hb hdone => ?_, rfl, hsz.symm, fun t ht => ?_⟩ rfl (fun _ _ => rfl) hchain
  · exact (hfloat w' hI).get (floatsFrom_mem L 0 i o (by simpa using ho) (by rw [Nat.zero_add]; exact hi))
  · rw [hl b (Array.getElem?_eq_some_iff.1 hb).1] at hdone
    cases hdone
  · refine (fillT_other _ _ _ fun o ho e => ?_).symm
    obtain ⟨j, hj, hn⟩ := floatsFrom_idx L 0 o ho
    have hoj : L.toArray[j]? = some o := by simpa using hj
    exact ht j o (by simpa using hn) hoj (hl j (Array.getElem?_eq_some_iff.1 hoj).1) e
end
end Go.Proofs.Ytknibnbepmdapaa
