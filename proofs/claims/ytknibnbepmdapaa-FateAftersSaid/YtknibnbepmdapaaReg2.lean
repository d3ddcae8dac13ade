/-
The rule for regions that draw their order (Reg), where two operations, one behind the other, make memory: the invariant says how many of them have been done.
-/
import Derived.Test.YtknibnbepmdapaaReg
namespace Go.Proofs.Ytknibnbepmdapaa
open Go
section
variable {F : Fence} {n : Nat} {P : Program} {m : Nat} {ops : Array Oper} {Q : Exit → Act → World → Prop} {a0 aV : Act}
/-- How many of two operations have been done. -/
def twoOf (e0 : Nat) (l : Array Bool) : Nat := (if l.getD e0 true = true then 1 else 0) + (if l.getD (e0 + 1) true = true then 1 else 0)

theorem reg_soundIn1 {I : Nat → World → Prop} {e0 : Nat} (hf : RegFacts m aV.tmps.size ops) (he0 : e0 + 1 < m) (hbe : ∀ o, ops[e0 + 1]? = some o → e0 ∈ binding o) (hV : ∀ t, (∀ i o, i < m → ops[i]? = some o → o.dst ≠ some t) → aV.tmps[t]? = a0.tmps[t]?)
    (hstep : ∀ b w, I b w → ∀ i o, i < m → ops[i]? = some o → (i = e0 → b = 0) → (i = e0 + 1 → b = 1) → wpListIn F n P ops (PostA aV (I (if i = e0 then 1 else if i = e0 + 1 then 2 else b))) [o] aV w) (htail : ∀ w, I 2 w → wpListIn F n P ops Q (ops.toList.drop m) aV w) :
    ∀ (d : Nat) (l : Array Bool) (a : Act) (w : World), unlisted ops.size l = d → RegState m ops a0 aV l a → (l.getD (e0 + 1) true = true → l.getD e0 true = true) → I (twoOf e0 l) w → wpAnyIn F n P .any ops Q d l a w := by
  intro d
  induction d using Nat.strongRecOn with
  | _ d ih =>
    intro l a w hd hs hcl hI
    by_cases hall : ∀ i, i < m → l.getD i true = true
    · obtain rfl := hs.full hV hall
      have hcount := unlisted_from hf.le hs.size hs.late hall
      refine tail_soundIn hf d m l a w (by have := hf.le; omega) (Nat.le_refl _) hs.size (fun j hj => ?_) (htail w (by unfold twoOf at hI; rw [hall e0 (by omega), hall (e0 + 1) he0] at hI; exact hI))
      by_cases hjm : j < m
      · rw [hall j hjm]; simp [hjm]
      · rw [hs.late j (by omega) hj]; simp [hjm]
    · have hex : ∃ i, i < m ∧ l.getD i true = false := by
        by_cases h : ∃ i, i < m ∧ l.getD i true = false
        · exact h
        · exact absurd (fun i hi => by cases hb : l.getD i true with | true => rfl | false => exact absurd ⟨i, hi, hb⟩ h) hall
      -- the least that is open
      have hleast : ∃ i, i < m ∧ l.getD i true = false ∧ ∀ j, j < i → l.getD j true = true := by
        obtain ⟨i, hi, hb⟩ := hex
        induction i using Nat.strongRecOn with
        | _ i ihi =>
          by_cases h : ∃ j, j < i ∧ l.getD j true = false
          · obtain ⟨j, hj, hjb⟩ := h; exact ihi j hj (by omega) hjb
          · exact ⟨i, hi, hb, fun j hj => by cases hb' : l.getD j true with | true => rfl | false => exact absurd ⟨j, hj, hb'⟩ h⟩
      obtain ⟨i0, hi0, hb0, hmin⟩ := hleast
      have hi0s : i0 < ops.size := by have := hf.le; omega
      have hr0 : i0 ∈ Region.ready .any ops l := mem_ready.2 ⟨ops[i0], Array.getElem?_eq_getElem hi0s, hb0, fun k hk => by
        have := hf.up i0 _ k (Array.getElem?_eq_getElem hi0s) hk
        rw [getD_lt (by rw [hs.size]; omega) false true]
        exact hmin k this⟩
      have hpos : 0 < d := by
        rw [← hd]
        refine Nat.pos_of_ne_zero fun h0 => ?_
        have := unlisted_set (n := ops.size) hi0s (by rw [hs.size]; exact hi0s) hb0
        omega
      obtain ⟨d', rfl⟩ : ∃ d', d = d' + 1 := ⟨d - 1, by omega⟩
      refine ⟨fun h0 => by rw [h0] at hr0; simp at hr0, fun i hi => ?_⟩
      obtain ⟨o, ho, h1, h2⟩ := mem_ready.1 hi
      have his : i < ops.size := (Array.getElem?_eq_some_iff.1 ho).1
      have him : i < m := by
        rcases Nat.lt_or_ge i m with h | h
        · exact h
        · exfalso
          have h3 := h2 i0 (hf.tail i o i0 h ho (by omega))
          rw [getD_lt (by rw [hs.size]; exact hi0s) false true, hb0] at h3
          simp at h3
      have hdec : unlisted ops.size (l.setIfInBounds i true) = d' := by
        have hlt := unlisted_set (n := ops.size) his (by rw [hs.size]; exact his) h1
        have hge : unlisted ops.size l ≤ unlisted ops.size (l.setIfInBounds i true) + 1 := by
          unfold unlisted
          have : ∀ (L : List Nat), L.Nodup → L.countP (fun j => !l.getD j true) ≤ L.countP (fun j => !(l.setIfInBounds i true).getD j true) + 1 := by
            intro L
            induction L with
            | nil => simp
            | cons x L ihL =>
              intro hnd
              rw [List.nodup_cons] at hnd
              have ihL := ihL hnd.2
              rw [List.countP_cons, List.countP_cons, getD_set (by rw [hs.size]; exact his)]
              by_cases e : x = i
              · subst e
                have hsame : L.countP (fun j => !l.getD j true) = L.countP (fun j => !(l.setIfInBounds x true).getD j true) := by
                  apply List.countP_congr
                  intro y hy
                  have hyx : y ≠ x := fun e => hnd.1 (by rw [← e]; exact hy)
                  rw [getD_set (by rw [hs.size]; exact his), if_neg hyx]
                rw [hsame]
                simp
                split <;> omega
              · rw [if_neg e]; split <;> omega
          exact this _ List.nodup_range
        omega
      have hg0 : (l.setIfInBounds i true).getD e0 true = if e0 = i then true else l.getD e0 true := getD_set (by rw [hs.size]; exact his)
      have hg1 : (l.setIfInBounds i true).getD (e0 + 1) true = if e0 + 1 = i then true else l.getD (e0 + 1) true := getD_set (by rw [hs.size]; exact his)
      have hi1 : i = e0 + 1 → l.getD e0 true = true := fun e => by
        subst e
        have := h2 e0 (hbe o ho)
        rwa [getD_lt (by rw [hs.size]; omega) false true] at this
      have hcl' : (l.setIfInBounds i true).getD (e0 + 1) true = true → (l.setIfInBounds i true).getD e0 true = true := by
        rw [hg0, hg1]
        by_cases h : e0 = i
        · intro _; rw [if_pos h]
        · rw [if_neg h]
          by_cases h' : e0 + 1 = i
          · intro _; exact hi1 h'.symm
          · rw [if_neg h']; exact hcl
      have hz0 : i = e0 → twoOf e0 l = 0 := fun e => by
        subst e
        unfold twoOf
        rw [h1]
        cases hx : l.getD (i + 1) true with
        | false => rfl
        | true => have := hcl hx; rw [h1] at this; cases this
      have hz1 : i = e0 + 1 → twoOf e0 l = 1 := fun e => by
        have h3 := hi1 e
        subst e
        unfold twoOf
        rw [h1, h3]; rfl
      have hee : twoOf e0 (l.setIfInBounds i true) = if i = e0 then 1 else if i = e0 + 1 then 2 else twoOf e0 l := by
        by_cases h : i = e0
        · rw [if_pos h]
          have h0 := hz0 h
          subst h
          unfold twoOf at h0 ⊢
          rw [hg0, hg1]
          rw [h1] at h0
          cases hx : l.getD (i + 1) true with
          | false => simp
          | true => rw [hx] at h0; simp at h0
        · rw [if_neg h]
          by_cases h' : i = e0 + 1
          · rw [if_pos h']
            have h3 := hi1 h'
            subst h'
            unfold twoOf
            rw [hg0, hg1, h3]
            simp
          · rw [if_neg h']
            have n0 : ¬ e0 = i := fun e => h e.symm
            have n1 : ¬ e0 + 1 = i := fun e => h' e.symm
            unfold twoOf
            rw [hg0, hg1]
            simp only [n0, n1, if_false]
      have hstate : ∀ v, aV.put o.dst v = aV → ∀ w', I (if i = e0 then 1 else if i = e0 + 1 then 2 else twoOf e0 l) w' → wpAnyIn F n P .any ops Q d' (l.setIfInBounds i true) (a.put o.dst v) w' := fun v hv w' hI' =>
        ih d' (by omega) _ _ _ hdec (hs.next hf him ho hv) hcl' (by rw [hee]; exact hI')
      have hop := hstep _ w hI i o him ho hz0 hz1
      unfold wpOpIn
      rw [ho]
      simp only
      rw [hs.wanted hf him ho h2]
      simp only [wpListIn] at hop
      have heval := hs.sees hf hV him ho h2
      obtain ⟨hsel, hdef⟩ := hf.calm i o him ho
      split
      · rename_i hw
        rw [if_pos hw] at hop
        refine ⟨fun f hfa => hop.1 f (by rw [← about_congr o w heval]; exact hfa), ?_⟩
        have h3 := hop.2
        rw [Oper.semAt_eq _ _ _ hdef] at h3 ⊢
        rw [execOp_congr o hsel heval]
        exact upon_transferIn h3 fun v w' hv hI' => hstate v hv w' hI'
      · rename_i hw
        rw [if_neg hw] at hop
        exact ⟨fun f hfa => hop.1 f (by rw [← about_congr o w heval]; exact hfa), hstate undef hop.2.1 w hop.2.2⟩

/-- **THE RULE, WHERE TWO OPERATIONS, ONE BEHIND THE OTHER, MAKE MEMORY: the last two of the first e0 + 2.** -/
theorem wpIn_region_twice {id : Nat} {L : List Oper} {a : Act} {w : World} (e0 : Nat) (vs : List Value) (I : Nat → World → Prop) {tm : Array Value}
    (hm : P.follows .mixedOrders = true) (hok : regOk (e0 + 2) a.tmps.size L.toArray = true) (htm : fillT (L.take (e0 + 2)) vs a.tmps = tm)
    (h0 : I 0 w.drew)
    (hstep : ∀ b w', I b w' → AllIn F n P L.toArray { tmps := tm, defers := a.defers } (I b) w' (L.take e0)) {oe : Oper} (hoe : L[e0]? = some oe)
    (hmake : ∀ w', I 0 w' → wpListIn F n P L.toArray (PostA { tmps := tm, defers := a.defers } (I 1)) [oe] { tmps := tm, defers := a.defers } w')
    {of : Oper} (hof : L[e0 + 1]? = some of) (hbe : e0 ∈ binding of)
    (hmore : ∀ w', I 1 w' → wpListIn F n P L.toArray (PostA { tmps := tm, defers := a.defers } (I 2)) [of] { tmps := tm, defers := a.defers } w')
    (htail : ∀ w', I 2 w' → wpListIn F n P L.toArray Q (L.drop (e0 + 2)) { tmps := tm, defers := a.defers } w') :
    (Code.region id L.toArray true).wpIn F n P Q a w := by
  subst htm
  have hsz : (fillT (L.take (e0 + 2)) vs a.tmps).size = a.tmps.size := fillT_size _ _ _
  have hf : RegFacts (e0 + 2) ({ tmps := fillT (L.take (e0 + 2)) vs a.tmps, defers := a.defers } : Act).tmps.size L.toArray := by
    show RegFacts (e0 + 2) (fillT (L.take (e0 + 2)) vs a.tmps).size L.toArray
    rw [hsz]; exact regFacts hok
  refine wpIn_region_any hm ?_
  have hcount : unlisted L.toArray.size (Array.replicate L.toArray.size false) = L.toArray.size := by
    have := unlisted_from (m := 0) (N := L.toArray.size) (l := Array.replicate L.toArray.size false) (Nat.zero_le _) (by simp) (fun j _ hj => by
      rw [Array.getD_eq_getD_getElem?, Array.getElem?_eq_getElem (by simpa using hj)]; simp) (fun i hi => by omega)
    simpa using this
  have hF0 : (Array.replicate L.toArray.size false).getD e0 true = false := by
    have hlt : e0 < L.length := (List.getElem?_eq_some_iff.1 hoe).1
    rw [Array.getD_eq_getD_getElem?, Array.getElem?_eq_getElem (by simpa using hlt)]; simp
  have hF1 : (Array.replicate L.toArray.size false).getD (e0 + 1) true = false := by
    have hlt : e0 + 1 < L.length := (List.getElem?_eq_some_iff.1 hof).1
    rw [Array.getD_eq_getD_getElem?, Array.getElem?_eq_getElem (by simpa using hlt)]; simp
  refine reg_soundIn1 (a0 := a) (e0 := e0) hf (Nat.lt_succ_self _) (fun o ho => by
      have h1 : L[e0 + 1]? = some o := by simpa using ho
      rw [hof] at h1; cases h1; exact hbe) (fun t ht => ?_) (fun b w' hI i o hi ho hb hb1 => ?_) (by simpa using htail) _ _ _ _ hcount ⟨by simp, fun j _ hj => by
      rw [Array.getD_eq_getD_getElem?, Array.getElem?_eq_getElem (by simpa using hj)]; simp, rfl, hsz.symm, fun i o d him ho hl _ => ?_, fun t _ => rfl⟩ (fun h => by rw [hF1] at h; cases h) (by unfold twoOf; rw [hF0, hF1]; exact h0)
  · refine fillT_other _ _ _ fun o ho e => ?_
    obtain ⟨j, hj⟩ := List.mem_iff_getElem?.1 ho
    rw [List.getElem?_take] at hj
    split at hj
    · exact ht j o (by assumption) (by simpa using hj) e
    · simp at hj
  · by_cases he : i = e0
    · subst he
      rw [hb rfl] at hI
      rw [if_pos rfl]
      have : o = oe := by
        have h1 : L[i]? = some o := by simpa using ho
        rw [hoe] at h1; cases h1; rfl
      subst this
      exact hmake w' hI
    · rw [if_neg he]
      by_cases he1 : i = e0 + 1
      · subst he1
        rw [hb1 rfl] at hI
        rw [if_pos rfl]
        have : o = of := by
          have h1 : L[e0 + 1]? = some o := by simpa using ho
          rw [hof] at h1; cases h1; rfl
        subst this
        exact hmore w' hI
      rw [if_neg he1]
      refine (hstep b w' hI).get ?_
      have : (L.take e0)[i]? = some o := by rw [List.getElem?_take, if_pos (by omega)]; simpa using ho
      exact List.mem_of_getElem? this
  · exfalso
    have his : i < L.toArray.size := (Array.getElem?_eq_some_iff.1 ho).1
    rw [Array.getD_eq_getD_getElem?, Array.getElem?_eq_getElem (by simpa using his)] at hl
    simp at hl
end
end Go.Proofs.Ytknibnbepmdapaa
