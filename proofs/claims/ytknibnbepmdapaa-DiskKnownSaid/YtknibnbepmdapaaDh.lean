/-
The disk: a new one; what is laid, read, let come.
-/
import Derived.Test.YtknibnbepmdapaaDc
import Derived.Test.YtknibnbepmdapaaKl
namespace Go.Proofs.Ytknibnbepmdapaa
open Go.RowKit Go.Shelf Go.Proofs.YtknibnbepmdapaaW.PrintWords Go.Proofs.Ytknibnbepmdapaa.PFate Go.ChangeMaps
attribute [local go_sem] Oper.semAt_some

def blankRow (n : Nat) : Array Value := encV Value.string (List.replicate n (⟨#[]⟩ : ByteArray))
def noughts : Array Value := encV (Value.int .u8) (List.replicate 256 0)

/-- A new disk. -/
def DS.new (n : Nat) : DS := ⟨List.replicate n (secS 0), [], false, -1, 0⟩

set_option maxRecDepth 100000 in
set_option maxHeartbeats 1000000 in
theorem new_in (n : Nat) (w : World) (hn : 64 ≤ n ∧ n ≤ 1024) :
    CallsIn Fence.wide 9 Try.prog 27 #[.int .i64 n] w fun e w' => ∃ d F, e = .returned (.pointer (some ⟨d, 0, none⟩)) ∧ DiskAt w' d F (DS.new n) ∧ (∀ k, F k → w.heap.size ≤ k) ∧ Below w.heap.size w w' := by
  have hF : ∀ f, Fence.wide.fn f := fun _ => trivial
  refine callsIn_of_wp Try.func27 rfl (hF _) ?_ rfl
  simp only [Try.ntmps27, List.size_toArray, List.length_cons, List.length_nil, Nat.reduceAdd, Nat.reduceSub, Array.replicate_succ, Array.replicate_zero, List.push_toArray, List.append_toArray, List.nil_append, List.cons_append]
  obtain ⟨hn1, hn2⟩ := hn
  have mk1 : ∀ w, (Instr.makeSlice 33 (.int .i64 (n : Int)) (.int .i64 (n : Int))).run Try.prog w = .ok (.slice (some ⟨w.heap.size, 0, none⟩) n n) (w.alloc (.cells (blankRow n) 9)) := fun w => make_strings n (by omega) w
  have mk2 : ∀ w, (Instr.makeSlice 25 (.int .i64 256) (.int .i64 256)).run Try.prog w = .ok (.slice (some ⟨w.heap.size, 0, none⟩) 256 256) (w.alloc (.cells noughts 5)) := fun w => make_bytes 256 (by omega) w
  have hmm := @run_makeMap Try.prog
  have h1 : ¬ (n : Int) < 64 := by omega
  have h2 : ¬ (1024 : Int) < n := by omega
  have hcv : (convert 25 9 (.slice (some ⟨w.heap.size + 1, 0, none⟩) 256 256)).run Try.prog ((w.alloc (.cells (blankRow n) 9)).alloc (.cells noughts 5)) = .ok (.string (secS 0)) ((w.alloc (.cells (blankRow n) 9)).alloc (.cells noughts 5)) := by
    have hb := Blk.new (w.alloc (.cells (blankRow n) 9)) 5 noughts
    have hb : Blk ((w.alloc (.cells (blankRow n) 9)).alloc (.cells noughts 5)) (w.heap.size + 1) 5 noughts := by simpa using hb
    have hb : Blk ((w.alloc (.cells (blankRow n) 9)).alloc (.cells noughts 5)) (w.heap.size + 1) 5 (encV (Value.int .u8) (List.replicate 256 0)) := hb
    exact Kd.C_string Try.underlying25 Try.underlying5 Try.underlying9 (Blk.reads (enc := Value.int .u8) (h1 := fun _ => rfl) hb (by rw [List.length_replicate]; decide))
  gi_wp2_with fail
  obtain ⟨g, hg⟩ : ∃ g, w.heap.size = g := ⟨_, rfl⟩
  obtain ⟨W1, hW1⟩ : ∃ W1, (w.alloc (.cells (blankRow n) 9)).alloc (.cells noughts 5) = W1 := ⟨_, rfl⟩
  have b0 : Blk W1 g 9 (encV Value.string (List.replicate 0 (secS 0) ++ List.replicate n (⟨#[]⟩ : ByteArray))) := by rw [← hW1, ← hg]; exact (Blk.new w 9 _).alloc _
  have hb1 : Below w.heap.size w W1 := by rw [← hW1]; exact below_alloc (below_alloc (Below.refl _ _) _) _
  have hgw : w.heap.size ≤ g := Nat.le_of_eq hg
  rw [hW1]
  try rw [hg]
  clear hW1 hg hcv
  gi_loopw [18] (fun s wr => ∃ i : Nat, i ≤ n ∧ s = .int .i64 (i : Int) ∧ Blk wr g 9 (encV Value.string (List.replicate i (secS 0) ++ List.replicate (n - i) (⟨#[]⟩ : ByteArray))) ∧ Below w.heap.size w wr)
    (fun s _ => n - (intOf s).toNat)
  case atStart => exact ⟨0, Nat.zero_le _, rfl, b0, hb1⟩
  case round =>
    obtain ⟨i, hi, rfl, bG, hbW⟩ := hrel
    clear b0 hb1
    rcases Nat.lt_or_ge i n with hlt | hge
    · have hlt' : (i : Int) < n := by omega
      have hsz : (encV Value.string (List.replicate i (secS 0) ++ List.replicate (n - i) (⟨#[]⟩ : ByteArray))).size = n := by rw [encV_size, List.length_append, List.length_replicate, List.length_replicate]; omega
      have f0 := bG.frozen i
      obtain ⟨z0, g0⟩ : ∃ x, wr.cell? ⟨g, i, none⟩ = some x := ⟨_, (bG.cell i).trans (Array.getElem?_eq_getElem (by omega))⟩
      have hset : (encV Value.string (List.replicate i (secS 0) ++ List.replicate (n - i) (⟨#[]⟩ : ByteArray))).setIfInBounds i (.string (secS 0)) = encV Value.string (List.replicate (i + 1) (secS 0) ++ List.replicate (n - (i + 1)) (⟨#[]⟩ : ByteArray)) := by
        rw [encV_set, List.set_append_right _ _ (by simp), List.length_replicate, Nat.sub_self, show n - i = (n - (i + 1)) + 1 by omega, List.replicate_succ, List.set_cons_zero, List.replicate_succ', List.append_assoc]
        rfl
      replace hsz := Lib.hid hsz
      replace hset := Lib.hid hset
      gi_wp2
      go_roundw
      case rel => exact ⟨i + 1, by omega, by go_num, by rw [← hset.out]; exact bG.set i _, hbW.setCell (p := ⟨g, i, none⟩) hgw _⟩
      case measure => simp [intOf]; omega
    · obtain rfl : i = n := by omega
      have bG : Blk wr g 9 (encV Value.string (List.replicate i (secS 0))) := by have := bG; rwa [Nat.sub_self, List.replicate_zero, List.append_nil] at this
      gi_wp2
      have hlen : (List.replicate i (secS 0)).length = i := List.length_replicate
      have hsz := hbW.size
      have bG2 := (bG.alloc (.map #[] 0)).alloc (.cells #[.slice (some ⟨g, 0, none⟩) i i, .slice none 0 0, .map (some wr.heap.size), .bool false, .int .i64 (-1), .int .i64 0] 91)
      have hg := bG.lt
      have bd := Blk.new (wr.alloc (.map #[] 0)) 91 #[.slice (some ⟨g, 0, none⟩) i i, .slice none 0 0, .map (some wr.heap.size), .bool false, .int .i64 (-1), .int .i64 0]
      have bd' : Blk ((wr.alloc (.map #[] 0)).alloc (.cells #[.slice (some ⟨g, 0, none⟩) i i, .slice none 0 0, .map (some wr.heap.size), .bool false, .int .i64 (-1), .int .i64 0] 91)) (wr.heap.size + 1) 91 #[.slice (some ⟨g, 0, none⟩) i i, .slice none 0 0, .map (some wr.heap.size), .bool false, .int .i64 (-1), .int .i64 0] := by simpa using bd
      have hmp := (World.ownsMap_made (H := Unit) wr Try.prog 3 (plainElem Try.prog 9)).alloc (.cells #[.slice (some ⟨g, 0, none⟩) i i, .slice none 0 0, .map (some wr.heap.size), .bool false, .int .i64 (-1), .int .i64 0] 91)
      have hsz2 : ∀ (o o' : Obj), ((wr.alloc o).alloc o').heap.size = wr.heap.size + 2 := fun o o' => by simp
      refine ⟨rfl, _, results_tmp rfl _ _ _, wr.heap.size + 1, (fun k => w.heap.size ≤ k ∧ k < wr.heap.size + 2), rfl, ⟨.slice (some ⟨g, 0, none⟩) i i, .slice none 0 0, wr.heap.size, 0, .map [], bd', ⟨?_, Kd.R_nil _ _ _ _ _, hmp, seenOk_nil, Nat.le_refl _, ⟨by omega, by omega⟩, ⟨hsz, by omega⟩, fun k hk => ?_⟩⟩, fun k hk => hk.1, below_alloc (below_alloc hbW _) _⟩
      · have := bG2.owns (enc := Value.string) (base := 0) (Nat.zero_le _) (by rw [hlen]; unfold maxLen; omega)
        rw [hlen] at this
        exact Kd.R_of_own (by rw [show (DS.new i).held = List.replicate i (secS 0) from rfl, hlen]; exact this) (fun k hk => by cases hk; exact ⟨hgw, Nat.lt_succ_of_lt (Nat.lt_succ_of_lt hg)⟩)
      · rw [hsz2]; exact hk.2
theorem new_calls (n : Nat) (w : World) (hn : 64 ≤ n ∧ n ≤ 1024) :
    Calls Try.prog 27 #[.int .i64 n] w fun e w' => ∃ d F, e = .returned (.pointer (some ⟨d, 0, none⟩)) ∧ DiskAt w' d F (DS.new n) ∧ (∀ k, F k → w.heap.size ≤ k) ∧ Below w.heap.size w w' := (callsIn_wide (n := 9)).1 (new_in n w hn)

theorem new_none (n : Int) (w : World) (hn : n < 64 ∨ 1024 < n) :
    Calls Try.prog 27 #[.int .i64 n] w fun e w' => e = .returned (.pointer none) ∧ w' = w := by
  refine (callsIn_wide (n := 9)).1 ?_
  have hF : ∀ f, Fence.wide.fn f := fun _ => trivial
  refine callsIn_of_wp Try.func27 rfl (hF _) ?_ rfl
  simp only [Try.ntmps27, List.size_toArray, List.length_cons, List.length_nil, Nat.reduceAdd, Nat.reduceSub, Array.replicate_succ, Array.replicate_zero, List.push_toArray, List.append_toArray, List.nil_append, List.cons_append]
  rcases hn with hn | hn
  · gi_wp2
    exact ⟨rfl, _, results_tmp rfl _ _ _, rfl, rfl⟩
  · have h1 : ¬ n < 64 := by omega
    gi_wp2
    exact ⟨rfl, _, results_tmp rfl _ _ _, rfl, rfl⟩
end Go.Proofs.Ytknibnbepmdapaa

/-
The disk: what is laid.
-/
namespace Go.Proofs.Ytknibnbepmdapaa
open Go.RowKit Go.Shelf Go.Proofs.YtknibnbepmdapaaW.PrintWords Go.Proofs.Ytknibnbepmdapaa.PFate Go.ChangeMaps Go.Maps
attribute [local go_sem] Oper.semAt_some

theorem info43 : (Try.prog.info? 43).map (fun i => (i.zero, i.size, i.bytes)) = some (some (.agg #[.int .i64 0, .string ⟨#[]⟩]), 2, 24) := by kernel_rfl

theorem append_pend (W : World) (F : Nat → Prop) (vp : Value) (pend : List S43) (x : S43) (g : Nat) (hR : Kd.R k43 43 W 0 F vp pend) (hg : Blk W g 43 #[.int .i64 x.f0, .string x.f1]) (hm : pend.length ≤ 1000000) (ty : TypeId) :
    ∃ v1 w1, (Builtin.append_ #[35, 35] ty #[vp, .slice (some ⟨g, 0, none⟩) 1 1]).run Try.prog W = .ok v1 w1 ∧ Kd.R k43 43 w1 0 (fun k => F k ∨ W.heap.size ≤ k) v1 (pend ++ [x]) ∧ W.grownBy w1 vp.ownBlock := by
  obtain ⟨i0, hi, hz0, hz1, hz2⟩ := info_parts info43
  obtain ⟨h0, inner, hown, hr⟩ := hR
  obtain ⟨v1, w1, hrun, hown1, hg1, _, hat⟩ := run_append_own_at (P := Try.prog) W 0 35 ty 43 i0 _ 2 24 Try.underlying35 hi hz0 hz1 hz2 rfl (by decide) vp pend.length inner hown ⟨g, 0, none⟩ 1 1 [.int .i64 x.f0, .string x.f1] rfl
    (fun j u hu => by
      rw [add_plain]
      match j, hu with
      | 0, hu => exact (hg.cell 0).trans hu
      | 1, hu => exact (hg.cell 1).trans hu
      | j + 2, hu => simp at hu)
    (fun u hu => by
      simp only [List.mem_cons, List.not_mem_nil, or_false] at hu
      rcases hu with rfl | rfl <;> rfl)
    (by unfold maxLen; omega) (by omega) (Nat.zero_le _)
  refine ⟨v1, w1, hrun, Kd.R_appended (okp := fun _ => False) (fun k hk => .inl (h0 k hk)) (hr.imp_ (fun _ _ hq => k43.M_mono (fun k hk => ⟨.inl hk.1, hk.2⟩) hq)) (k43_mkM W 0 _ x) (fun k hk => hk.elim) (fun k hk => .inr hk) hown1 hg1 ?_, hg1⟩
  rcases hat with hat | hat
  · exact .inl hat
  · exact .inr ⟨_, hat, Nat.le_refl _⟩

/-- What laying comes to. -/
def DS.write (s : DS) (i : Int) (str : ByteArray) : Int × DS :=
  let r := s.ask (thereB i s.held.length && ((str.size : Int) == 256))
  if r.1 = 0 then (0, { r.2 with pend := r.2.pend ++ [⟨i, str⟩] }) else r

theorem ask_same (s : DS) (b : Bool) : (s.ask b).2.held = s.held ∧ (s.ask b).2.pend = s.pend := by
  unfold DS.ask
  split
  · exact ⟨rfl, rfl⟩
  · split
    · exact ⟨rfl, rfl⟩
    · split <;> exact ⟨rfl, rfl⟩
theorem ask_err (s : DS) (b : Bool) : (s.ask b).1 = 0 ∨ (s.ask b).1 = 2 ∨ (s.ask b).1 = 10 := by
  unfold DS.ask
  split
  · exact .inr (.inr rfl)
  · split
    · exact .inr (.inl rfl)
    · split
      · exact .inr (.inr rfl)
      · exact .inl rfl
theorem ask_ok (s : DS) (b : Bool) (h : (s.ask b).1 = 0) : b = true := by
  unfold DS.ask at h
  split at h
  · cases h
  · split at h
    · cases h
    · cases b
      · simp at *
      · rfl

theorem seenOk_put {D : DataW Unit} {pend : List S43} (h : SeenOk D pend) (hm : IsMap D) (x : S43) : SeenOk (D.put (.int .i64 x.f0) (.lit (.string x.f1.data.toList))) (pend ++ [x]) := by
  intro i hi
  obtain ⟨h1, h2⟩ := h i hi
  rw [lastOf_snoc]
  by_cases e : x.f0 = i
  · subst e
    rw [if_pos rfl]
    refine ⟨by rw [has_put_same hm (by first | exact trivial | simp [WideAt.IsKeyLit])]; rfl, fun s hs z => ?_⟩
    cases hs
    rw [atKey_put_same hm (by first | exact trivial | simp [WideAt.IsKeyLit])]
  · rw [if_neg e]
    have hne : Lit.int .i64 i ≠ Lit.int .i64 x.f0 := fun h => e (by cases h; rfl)
    refine ⟨by rw [has_put_other hne]; exact h1, fun s hs z => ?_⟩
    rw [atKey_put_other hne]
    exact h2 s hs z

theorem law3 : Keyed Try.prog 3 := int_keyed Try.underlying3
theorem keyOf3 {i : Int} (h : (Lit.int .i64 i).wf = true) : keyOf Try.prog 3 (.int .i64 i) = some (.int .i64 i) := keyOf_int_mk Try.underlying3 h

theorem DiskAt.isMap {w : World} {b n : Nat} {D : DataW Unit} (h : SeenM w b n D) : IsMap D := by
  obtain ⟨es, _, _, _, _, rfl⟩ := h
  exact ⟨_, rfl⟩

set_option maxRecDepth 100000 in
set_option maxHeartbeats 1000000 in
theorem write_in (d : Nat) (F : Nat → Prop) (s : DS) (i : Int) (str : ByteArray) (w : World) (hD : DiskAt w d F s) (hi : (Lit.int .i64 i).wf = true) (hstr : str.size ≤ 1000000)
    (hf : -1 ≤ s.fuse ∧ s.fuse ≤ 1000000) (ho : 0 ≤ s.ops ∧ s.ops ≤ 1000000) (hp : s.pend.length ≤ 1000000) :
    CallsIn Fence.wide 9 Try.prog 30 #[.pointer (some ⟨d, 0, none⟩), .int .i64 i, .string str] w fun e w' => e = .returned (.int .i64 (s.write i str).1) ∧ DiskPost w d F (s.write i str).2 w' := by
  have hF : ∀ f, Fence.wide.fn f := fun _ => trivial
  refine callsIn_of_wp Try.func30 rfl (hF _) ?_ rfl
  simp only [Try.ntmps30, List.size_toArray, List.length_cons, List.length_nil, Nat.reduceAdd, Nat.reduceSub, Array.replicate_succ, Array.replicate_zero, List.push_toArray, List.append_toArray, List.nil_append, List.cons_append]
  obtain ⟨r, hrq⟩ : ∃ r, s.ask (thereB i s.held.length && ((str.size : Int) == 256)) = r := ⟨_, rfl⟩
  have hwr : s.write i str = if r.1 = 0 then (0, { r.2 with pend := r.2.pend ++ [⟨i, str⟩] }) else r := by unfold DS.write; rw [hrq]
  have hlt := hD.lt
  gi_wp2_with fail
  refine (callsIn_wide.2 (there_calls (some ⟨d, 0, none⟩) i _)).mono ?_
  rintro e w1 ⟨rfl, rfl⟩
  gi_wp2_with fail
  obtain ⟨W2, hW2⟩ : ∃ W2, (((w.alloc (.cells #[.string str] 9)).alloc (.cells #[.pointer (some ⟨d, 0, none⟩)] 52)).alloc (.cells #[.int .i64 i] 3)).alloc (.cells #[.func (.func 59) #[] #[.pointer (some ⟨w.heap.size + 1 + 1, 0, none⟩), .pointer (some ⟨w.heap.size + 1, 0, none⟩)], .func (.func 55) #[] #[.pointer (some ⟨w.heap.size, 0, none⟩)]] 30) = W2 := ⟨_, rfl⟩
  have k0 : Below w.heap.size w W2 := by rw [← hW2]; exact below_alloc (below_alloc (below_alloc (below_alloc (Below.refl _ _) _) _) _) _
  have e0 : Blk W2 w.heap.size 9 #[.string str] := by rw [← hW2]; exact (((Blk.new w 9 _).alloc _).alloc _).alloc _
  have e1 : Blk W2 (w.heap.size + 1) 52 #[.pointer (some ⟨d, 0, none⟩)] := by rw [← hW2]; have := ((Blk.new (w.alloc (.cells #[.string str] 9)) 52 #[.pointer (some ⟨d, 0, none⟩)]).alloc (.cells #[.int .i64 i] 3)).alloc (.cells #[.func (.func 59) #[] #[.pointer (some ⟨w.heap.size + 1 + 1, 0, none⟩), .pointer (some ⟨w.heap.size + 1, 0, none⟩)], .func (.func 55) #[] #[.pointer (some ⟨w.heap.size, 0, none⟩)]] 30); simpa using this
  have e2 : Blk W2 (w.heap.size + 1 + 1) 3 #[.int .i64 i] := by rw [← hW2]; have := (Blk.new ((w.alloc (.cells #[.string str] 9)).alloc (.cells #[.pointer (some ⟨d, 0, none⟩)] 52)) 3 #[.int .i64 i]).alloc (.cells #[.func (.func 59) #[] #[.pointer (some ⟨w.heap.size + 1 + 1, 0, none⟩), .pointer (some ⟨w.heap.size + 1, 0, none⟩)], .func (.func 55) #[] #[.pointer (some ⟨w.heap.size, 0, none⟩)]] 30); simpa using this
  have e3 : Blk W2 (w.heap.size + 1 + 1 + 1) 30 #[.func (.func 59) #[] #[.pointer (some ⟨w.heap.size + 1 + 1, 0, none⟩), .pointer (some ⟨w.heap.size + 1, 0, none⟩)], .func (.func 55) #[] #[.pointer (some ⟨w.heap.size, 0, none⟩)]] := by rw [← hW2]; have := Blk.new (((w.alloc (.cells #[.string str] 9)).alloc (.cells #[.pointer (some ⟨d, 0, none⟩)] 52)).alloc (.cells #[.int .i64 i] 3)) 30 #[.func (.func 59) #[] #[.pointer (some ⟨w.heap.size + 1 + 1, 0, none⟩), .pointer (some ⟨w.heap.size + 1, 0, none⟩)], .func (.func 55) #[] #[.pointer (some ⟨w.heap.size, 0, none⟩)]]; simpa using this
  rw [hW2]
  clear hW2
  have q := ask_calls d F s (some ⟨w.heap.size + 1 + 1 + 1, 0, none⟩) 2 [(.func (.func 59) #[] #[.pointer (some ⟨w.heap.size + 1 + 1, 0, none⟩), .pointer (some ⟨w.heap.size + 1, 0, none⟩)], thereB i s.held.length), (.func (.func 55) #[] #[.pointer (some ⟨w.heap.size, 0, none⟩)], (str.size : Int) == 256)] W2 (hD.below k0)
    ⟨fun p hp => by
      simp only [List.mem_cons, List.not_mem_nil, or_false] at hp
      rcases hp with rfl | rfl
      · exact .inl ⟨_, _, i, rfl, e2, e1, rfl⟩
      · exact .inr ⟨_, str, rfl, e0, rfl⟩, fun _ => ⟨_, rfl, e3⟩⟩ (by show 2 ≤ 1000; omega) hf ho
  rw [show allB [(Value.func (.func 59) #[] #[.pointer (some ⟨w.heap.size + 1 + 1, 0, none⟩), .pointer (some ⟨w.heap.size + 1, 0, none⟩)], thereB i s.held.length), (.func (.func 55) #[] #[.pointer (some ⟨w.heap.size, 0, none⟩)], (str.size : Int) == 256)] = (thereB i s.held.length && ((str.size : Int) == 256)) by simp [allB], hrq] at q
  refine (callsIn_wide.2 q).mono ?_
  rintro e w5 ⟨rfl, F1, hD1, hF1, hk1⟩
  clear q e1 e2 e3
  have herr := ask_err s (thereB i s.held.length && ((str.size : Int) == 256))
  obtain ⟨hsame1, hsame2⟩ := ask_same s (thereB i s.held.length && ((str.size : Int) == 256))
  rw [hrq] at herr hsame1 hsame2
  have hF1' : ∀ k, F1 k → F k ∨ w.heap.size ≤ k := fun k hk => by rcases hF1 k hk with h | h; exact .inl h; exact .inr (by have := k0.size; omega)
  have hk5 : Keeps w w5 F := (Keeps.of_below k0 F).trans hk1 (fun j hj => .inl hj)
  have e5 : Blk w5 w.heap.size 9 #[.string str] := hk1.blk e0 (fun h => by have := hlt _ h; omega)
  have hgF : ¬ F1 w.heap.size := fun h => by
    rcases hF1 _ h with h | h
    · have := hlt _ h; omega
    · have := e0.lt; omega
  clear hrq e0 k0 hk1 hF1
  obtain ⟨er, s1⟩ := r
  dsimp only at herr hD1 hsame1 hsame2 ⊢
  rcases herr with rfl | rfl | rfl
  · obtain ⟨vh, vp, bm, n, D, hd, hr⟩ := hD1
    obtain ⟨held, pend, off, fuse, ops⟩ := s1
    dsimp only at hd hr hsame2
    subst hsame2
    have hfin : Hid (s.write i str = (0, ⟨held, s.pend ++ [⟨i, str⟩], off, fuse, ops⟩)) := Lib.hid hwr
    clear hwr hsame1
    have fd := hr.fd
    have hneg : d ≠ w.heap.size := fun e => hgF (by rw [← e]; exact fd)
    gi_wp2_with fail
    refine wpIn_region_mixed [8, 9, 10, 11, 12] [.pointer (some ⟨d, 0, none⟩), .pointer (some ⟨d, 0, none⟩), .pointer (some ⟨d, 0, none⟩), .pointer (some ⟨d, 1, none⟩), vp, .int .i64 i, .string str, .agg #[.int .i64 i, .string str]] (fun W' => W'.cell? ⟨d, 1, none⟩ = some vp ∧ W'.cell? ⟨w.heap.size, 0, none⟩ = some (.string str)) (by kernel_rfl) (by kernel_rfl) rfl (by decide) ?fl1 ?ch1
    case fl1 =>
      intro W' hI
      obtain ⟨f0, f1⟩ := hI
      simp only [floatsFrom, List.contains_cons, List.contains_nil, Nat.reduceBEq, Nat.reduceAdd, Bool.or_false, Bool.or_true, if_true, if_false, Bool.false_eq_true, AllIn, fillT, List.setIfInBounds_toArray, List.set_cons_zero, List.set_cons_succ]
      refine ⟨?_, ?_, ?_, ?_, ?_, ?_, ?_, ?_, trivial⟩
      all_goals
        gi_wp2
        exact ⟨rfl, rfl⟩
    case ch1 =>
      simp only [floatsFrom, List.contains_cons, List.contains_nil, Nat.reduceBEq, Nat.reduceAdd, Bool.or_false, Bool.or_true, if_true, if_false, Bool.false_eq_true, fillT, List.setIfInBounds_toArray, List.set_cons_zero, List.set_cons_succ]
      have f0 : w5.drew.cell? ⟨d, 1, none⟩ = some vp := hd.cell 1
      have f1 : w5.drew.cell? ⟨w.heap.size, 0, none⟩ = some (.string str) := e5.cell 0
      refine ⟨⟨f0, f1⟩, fun o ho => ?_⟩
      simp only [List.getElem?_toArray, List.getElem?_cons_succ, List.getElem?_cons_zero, Option.some.injEq] at ho
      subst ho
      obtain ⟨W6, hW6⟩ : ∃ W6, (w5.alloc (.cells #[.int .i64 i, .string str] 43)).drew = W6 := ⟨_, rfl⟩
      have k6 : Below w5.heap.size w5 W6 := by rw [← hW6]; exact (below_alloc (Below.refl _ _) _).drew
      have b6 : Blk W6 w5.heap.size 43 #[.int .i64 i, .string str] := by rw [← hW6]; exact (Blk.new w5 43 _).drew
      have hsz6 : W6.heap.size = w5.heap.size + 1 := by rw [← hW6]; simp
      have hd6 := hd.below k6
      have hr6 := hr.below k6
      have e6 := e5.below k6
      gi_wp2
      try rw [hW6]
      clear hW6
      have f0 : W6.cell? ⟨d, 1, none⟩ = some vp := hd6.cell 1
      have f1 : W6.cell? ⟨w.heap.size, 0, none⟩ = some (.string str) := e6.cell 0
      refine ⟨rfl, ⟨f0, f1⟩, fun o ho => ?_⟩
      simp only [List.getElem?_toArray, List.getElem?_cons_succ, List.getElem?_cons_zero, Option.some.injEq] at ho
      subst ho
      obtain ⟨v1, w7, hrun, hR7, hg7⟩ := append_pend W6 F1 vp s.pend ⟨i, str⟩ w5.heap.size hr6.rp b6 hp 35
      obtain ⟨A1, c1, hv1⟩ := Kd.R_len hR7
      obtain ⟨m1, hm1⟩ : ∃ m1, (s.pend ++ [(⟨i, str⟩ : S43)]).length = m1 := ⟨_, rfl⟩
      rw [hm1] at hv1
      clear hm1
      subst hv1
      have hne1 : some d ≠ vp.ownBlock := Kd.R_ne hr6.rp hd6 (by decide)
      have hne2 : some w.heap.size ≠ vp.ownBlock := Kd.R_ne hr6.rp e6 (by decide)
      refine wpListIn_append_run _ rfl _ _ _ _ rfl _ _ rfl rfl hrun ?_
      clear f0 f1
      have hd7 := hd6.grown hg7 hne1
      have e7 := e6.grown hg7 hne2
      have f0 : w7.cell? ⟨d, 1, none⟩ = some vp := hd7.cell 1
      have f1 : w7.cell? ⟨w.heap.size, 0, none⟩ = some (.string str) := e7.cell 0
      have z1 := hd7.frozen 1
      have hsz7 := hg7.size
      have hlt1 := hr.lt
      -- the parts at w7
      have hmne : some bm ≠ vp.ownBlock := fun h => by
        obtain ⟨q, hq, cells, hc⟩ : ∃ q, q = 43 ∧ ∃ cells, W6.heap[bm]? = some (.cells cells q (0, 0)) := ⟨43, rfl, Kd.R_typed hr6.rp bm h.symm⟩
        exact hr6.rm.ne (g := bm) (t := q) hc rfl
      have hm7 : SeenM w7 bm n D := hr6.rm.stay (hg7.block bm (by have := hr6.lt bm hr6.fb; omega) hmne)
      have hh7 : Kd.R Kd.string 9 w7 0 F1 vh held := by
        refine Kd.R_mono (Kd.R_step (Kd.R_bound hr6.rh) (fun j hj hlt => hg7.block j hlt fun e => ?_)) (fun j hj => hj.1)
        obtain ⟨_, _, _, q, hq, cells, hc⟩ := hj
        obtain ⟨cells2, hc2⟩ := Kd.R_typed hr6.rp j e.symm
        rw [hc2] at hc
        injection hc with hc
        injection hc with _ hc
        have hq9 : q = 9 := by rcases List.mem_cons.1 hq with h | h; exact h; cases h
        rw [hq9] at hc
        exact absurd hc (by decide)
      have k7 : Keeps w w7 F := by
        refine ⟨hg7.os.trans (k6.os.trans hk5.os), hg7.tape.trans (k6.tape.trans hk5.tape), hg7.output.trans (k6.output.trans hk5.output), Nat.le_trans hk5.size (Nat.le_trans k6.size hg7.size), fun k hk hn => ?_⟩
        have hk' := hk5.size
        refine (hg7.block k (by omega) fun e => ?_).trans ((k6.block k (by omega)).trans (hk5.block k hk hn))
        have := hr6.rp.1 k e.symm
        rcases hF1' k this with h | h
        · exact hn h
        · omega
      gi_wp2
      refine ⟨rfl, ⟨f0, f1⟩, fun o ho => ?_⟩
      simp only [List.getElem?_toArray, List.getElem?_cons_succ, List.getElem?_cons_zero, Option.some.injEq] at ho
      subst ho
      gi_wp2
      refine ⟨rfl, ⟨f0, f1⟩, fun o ho => ?_⟩
      simp only [List.getElem?_toArray, List.getElem?_cons_succ, List.getElem?_cons_zero, Option.some.injEq] at ho
      subst ho
      gi_wp2
      refine ⟨rfl, ⟨f0, f1⟩, fun o ho => ?_⟩
      simp only [List.getElem?_toArray, List.getElem?_cons_succ, List.getElem?_cons_zero, Option.some.injEq] at ho
      subst ho
      gi_wp2
      refine ⟨rfl, ?_⟩
      simp only [ChainIn]
      obtain ⟨W8, hW8⟩ : ∃ W8, w7.setCell ⟨d, 1, none⟩ (.slice A1 m1 c1) = W8 := ⟨_, rfl⟩
      have hd8 : Blk W8 d 91 #[vh, (.slice A1 m1 c1), .map (some bm), .bool off, .int .i64 fuse, .int .i64 ops] := by rw [← hW8]; exact hd7.set 1 (.slice A1 m1 c1)
      have e8 : Blk W8 w.heap.size 9 #[.string str] := by rw [← hW8]; exact e7.stay (fun e => hneg e.symm) _
      have hm8 : SeenM W8 bm n D := by rw [← hW8]; exact hm7.stay (Below.heap_setCell _ ⟨d, 1, none⟩ _ bm (hm7.ne hd7))
      have hh8 : Kd.R Kd.string 9 W8 0 F1 vh held := by rw [← hW8]; exact Kd.R_set hh7 hd7 (by decide) 1 _
      have hR8 : Kd.R k43 43 W8 0 (fun k => F1 k ∨ W6.heap.size ≤ k) (.slice A1 m1 c1) (s.pend ++ [⟨i, str⟩]) := by rw [← hW8]; exact Kd.R_set hR7 hd7 (by decide) 1 _
      have k8 : Keeps w W8 F := by
        rw [← hW8]
        refine ⟨k7.os, k7.tape, k7.output, by have := k7.size; simpa using this, fun k hk hn => (Below.heap_setCell w7 ⟨d, 1, none⟩ (.slice A1 m1 c1) k fun e => ?_).trans (k7.block k hk hn)⟩
        have e : k = d := e
        rcases hF1' d fd with h | h
        · exact hn (by rw [e]; exact h)
        · omega
      have hsz8 : W8.heap.size = w7.heap.size := by rw [← hW8]; simp
      try rw [hW8]
      clear hW8 hd7 e7 hm7 hh7 hR7 k7 f0 f1 z1 hrun hg7 hne1 hne2 hmne
      have hrs := hr.rs
      have hrn := hr.rn
      have fb := hr.fb
      clear hr hr6 hd6 e6 b6 k6 hd e5
      gi_wp2_with fail
      refine wpIn_region_mixed [6] [.pointer (some ⟨d, 0, none⟩), .pointer (some ⟨d, 0, none⟩), .pointer (some ⟨d, 2, none⟩), .map (some bm), .int .i64 i, .string str] (fun W' => W'.cell? ⟨d, 2, none⟩ = some (.map (some bm)) ∧ W'.cell? ⟨w.heap.size, 0, none⟩ = some (.string str)) (by kernel_rfl) (by kernel_rfl) rfl (by decide) ?fl2 ?ch2
      case fl2 =>
        intro W' hI
        obtain ⟨f0, f1⟩ := hI
        simp only [floatsFrom, List.contains_cons, List.contains_nil, Nat.reduceBEq, Nat.reduceAdd, Bool.or_false, if_true, if_false, Bool.false_eq_true, AllIn, fillT, List.setIfInBounds_toArray, List.set_cons_zero, List.set_cons_succ]
        refine ⟨?_, ?_, ?_, ?_, ?_, ?_, trivial⟩
        all_goals
          gi_wp2
          exact ⟨rfl, rfl⟩
      case ch2 =>
        simp only [floatsFrom, List.contains_cons, List.contains_nil, Nat.reduceBEq, Nat.reduceAdd, Bool.or_false, if_true, if_false, Bool.false_eq_true, fillT, List.setIfInBounds_toArray, List.set_cons_zero, List.set_cons_succ]
        have f0 : W8.drew.cell? ⟨d, 2, none⟩ = some (.map (some bm)) := hd8.cell 2
        have f1 : W8.drew.cell? ⟨w.heap.size, 0, none⟩ = some (.string str) := e8.cell 0
        refine ⟨⟨f0, f1⟩, fun o ho => ?_⟩
        simp only [List.getElem?_toArray, List.getElem?_cons_succ, List.getElem?_cons_zero, Option.some.injEq] at ho
        subst ho
        refine wpListIn_mapUpdate_own _ rfl _ _ _ 89 rfl 3 9 law3 Try.underlying89 (plainElem Try.prog 9) bm n D rfl (show W8.drew.ownsMap Try.prog 3 (plainElem Try.prog 9) bm n D from hm8) (by unfold maxLen; omega) _ _ (.int .i64 i) rfl rfl (keyOf3 hi) (.lit (.string str.data.toList)) [] (plainElem_string Try.underlying9 (by unfold maxLen; omega)) ?_
        intro w9 hm9 hg9
        have hsz9 := hg9.size
        have hne3 : d ≠ bm := fun e => hm8.ne hd8 e.symm
        have hd9 : Blk w9 d 91 #[vh, (.slice A1 m1 c1), .map (some bm), .bool off, .int .i64 fuse, .int .i64 ops] := hd8.drew.grown hg9 (fun e => by cases e; exact hne3 rfl)
        have hh9 := R_map (show Kd.R Kd.string 9 W8.drew 0 F1 vh held from hh8) (show SeenM W8.drew bm n D from hm8) hg9
        have hR9 := R_map (show Kd.R k43 43 W8.drew 0 (fun k => F1 k ∨ W6.heap.size ≤ k) (.slice A1 m1 c1) (s.pend ++ [⟨i, str⟩]) from hR8) (show SeenM W8.drew bm n D from hm8) hg9
        refine ⟨rfl, ?_⟩
        simp only [ChainIn]
        have hsz9' : W8.heap.size ≤ w9.heap.size := hsz9
        have hlast : DiskPost w d F ⟨held, s.pend ++ [⟨i, str⟩], off, fuse, ops⟩ w9 := by
          refine ⟨fun k => (F1 k ∨ W6.heap.size ≤ k) ∧ k < w9.heap.size, ⟨vh, (.slice A1 m1 c1), bm, n + 1, _, hd9, ⟨?_, ?_, hm9, seenOk_put hrs (DiskAt.isMap hm8) ⟨i, str⟩, ?_, ?_, ?_, fun k hk => hk.2⟩⟩, fun k hk => ?_, ?_⟩
          · exact Kd.R_mono (Kd.R_bound hh9) (fun k hk => ⟨.inl hk.1, hk.2.2.1⟩)
          · exact Kd.R_mono (Kd.R_bound hR9) (fun k hk => ⟨hk.1, hk.2.2.1⟩)
          · show n + 1 ≤ (s.pend ++ [_]).length
            rw [List.length_append, List.length_singleton]; omega
          · exact ⟨.inl fd, by have := hlt1 d fd; omega⟩
          · exact ⟨.inl fb, by have := hlt1 bm fb; omega⟩
          · rcases hk.1 with h | h
            · exact hF1' k h
            · exact .inr (by have := hk5.size; omega)
          · refine ⟨hg9.os.trans k8.os, hg9.tape.trans k8.tape, hg9.output.trans k8.output, Nat.le_trans k8.size hsz9, fun k hk hn => ?_⟩
            refine (hg9.block k (by have := k8.size; show k < W8.heap.size; omega) fun e => ?_).trans (k8.block k hk hn)
            cases e
            rcases hF1' _ fb with h | h
            · exact hn h
            · omega
        gi_wp2
        refine ⟨rfl, _, results_tmp rfl _ _ _, ?_⟩
        rw [hfin.out]
        exact ⟨rfl, hlast⟩
  · have hfin : Hid (s.write i str = (2, s1)) := Lib.hid hwr
    clear hwr
    gi_wp2
    refine ⟨rfl, _, results_tmp rfl _ _ _, ?_⟩
    rw [hfin.out]
    exact ⟨rfl, F1, hD1, hF1', hk5⟩
  · have hfin : Hid (s.write i str = (10, s1)) := Lib.hid hwr
    clear hwr
    gi_wp2
    refine ⟨rfl, _, results_tmp rfl _ _ _, ?_⟩
    rw [hfin.out]
    exact ⟨rfl, F1, hD1, hF1', hk5⟩
theorem write_calls (d : Nat) (F : Nat → Prop) (s : DS) (i : Int) (str : ByteArray) (w : World) (hD : DiskAt w d F s) (hi : (Lit.int .i64 i).wf = true) (hstr : str.size ≤ 1000000)
    (hf : -1 ≤ s.fuse ∧ s.fuse ≤ 1000000) (ho : 0 ≤ s.ops ∧ s.ops ≤ 1000000) (hp : s.pend.length ≤ 1000000) :
    Calls Try.prog 30 #[.pointer (some ⟨d, 0, none⟩), .int .i64 i, .string str] w fun e w' => e = .returned (.int .i64 (s.write i str).1) ∧ DiskPost w d F (s.write i str).2 w' := (callsIn_wide (n := 9)).1 (write_in d F s i str w hD hi hstr hf ho hp)
end Go.Proofs.Ytknibnbepmdapaa

/-
The disk: what is read.
-/
namespace Go.Proofs.Ytknibnbepmdapaa
open Go.RowKit Go.Shelf Go.Proofs.YtknibnbepmdapaaW.PrintWords Go.Proofs.Ytknibnbepmdapaa.PFate Go.ChangeMaps Go.Maps
attribute [local go_sem] Oper.semAt_some

/-- What stands in a sector. -/
def DS.at (s : DS) (i : Int) : ByteArray := (lastOf s.pend i).getD (rdOf ByteArray.empty s.held i)
/-- What reading comes to. -/
def DS.read (s : DS) (i : Int) : ByteArray × Int × DS :=
  let r := s.ask (thereB i s.held.length)
  if r.1 = 0 then (s.at i, 0, r.2) else (⟨#[]⟩, r.1, r.2)

theorem zero9 (w : World) : (zeroValue 9).run Try.prog w = .ok (.string ⟨#[]⟩) w := by kernel_rfl

theorem string_ext {s t : ByteArray} (h : (DataW.lit (.string s.data.toList) : DataW Unit) = .lit (.string t.data.toList)) : s = t := by
  injection h with h
  injection h with h
  cases s; cases t
  simp only [ByteArray.mk.injEq]
  exact Array.toList_inj.1 h

theorem thereB_iff {i : Int} {n : Nat} : thereB i n = true ↔ 0 ≤ i ∧ i < n := by unfold thereB; simp

set_option maxRecDepth 100000 in
set_option maxHeartbeats 1000000 in
theorem read_disk_in (d : Nat) (F : Nat → Prop) (s : DS) (i : Int) (w : World) (hD : DiskAt w d F s) (hi : (Lit.int .i64 i).wf = true)
    (hf : -1 ≤ s.fuse ∧ s.fuse ≤ 1000000) (ho : 0 ≤ s.ops ∧ s.ops ≤ 1000000) :
    CallsIn Fence.wide 9 Try.prog 31 #[.pointer (some ⟨d, 0, none⟩), .int .i64 i] w fun e w' => e = .returned (.tuple #[.string (s.read i).1, .int .i64 (s.read i).2.1]) ∧ DiskPost w d F (s.read i).2.2 w' := by
  have hF : ∀ f, Fence.wide.fn f := fun _ => trivial
  refine callsIn_of_wp Try.func31 rfl (hF _) ?_ rfl
  simp only [Try.ntmps31, List.size_toArray, List.length_cons, List.length_nil, Nat.reduceAdd, Nat.reduceSub, Array.replicate_succ, Array.replicate_zero, List.push_toArray, List.append_toArray, List.nil_append, List.cons_append]
  obtain ⟨r, hrq⟩ : ∃ r, s.ask (thereB i s.held.length) = r := ⟨_, rfl⟩
  have hwr : s.read i = if r.1 = 0 then (s.at i, 0, r.2) else (⟨#[]⟩, r.1, r.2) := by unfold DS.read; rw [hrq]
  have hlt := hD.lt
  gi_wp2_with fail
  refine (callsIn_wide.2 (there_calls (some ⟨d, 0, none⟩) i _)).mono ?_
  rintro e w1 ⟨rfl, rfl⟩
  gi_wp2_with fail
  obtain ⟨W2, hW2⟩ : ∃ W2, ((w.alloc (.cells #[.pointer (some ⟨d, 0, none⟩)] 52)).alloc (.cells #[.int .i64 i] 3)).alloc (.cells #[.func (.func 59) #[] #[.pointer (some ⟨w.heap.size + 1, 0, none⟩), .pointer (some ⟨w.heap.size, 0, none⟩)]] 30) = W2 := ⟨_, rfl⟩
  have k0 : Below w.heap.size w W2 := by rw [← hW2]; exact below_alloc (below_alloc (below_alloc (Below.refl _ _) _) _) _
  have e1 : Blk W2 w.heap.size 52 #[.pointer (some ⟨d, 0, none⟩)] := by rw [← hW2]; exact ((Blk.new w 52 _).alloc _).alloc _
  have e2 : Blk W2 (w.heap.size + 1) 3 #[.int .i64 i] := by rw [← hW2]; have := (Blk.new (w.alloc (.cells #[.pointer (some ⟨d, 0, none⟩)] 52)) 3 #[.int .i64 i]).alloc (.cells #[.func (.func 59) #[] #[.pointer (some ⟨w.heap.size + 1, 0, none⟩), .pointer (some ⟨w.heap.size, 0, none⟩)]] 30); simpa using this
  have e3 : Blk W2 (w.heap.size + 1 + 1) 30 #[.func (.func 59) #[] #[.pointer (some ⟨w.heap.size + 1, 0, none⟩), .pointer (some ⟨w.heap.size, 0, none⟩)]] := by rw [← hW2]; have := Blk.new ((w.alloc (.cells #[.pointer (some ⟨d, 0, none⟩)] 52)).alloc (.cells #[.int .i64 i] 3)) 30 #[.func (.func 59) #[] #[.pointer (some ⟨w.heap.size + 1, 0, none⟩), .pointer (some ⟨w.heap.size, 0, none⟩)]]; simpa using this
  rw [hW2]
  clear hW2
  have q := ask_calls d F s (some ⟨w.heap.size + 1 + 1, 0, none⟩) 1 [(.func (.func 59) #[] #[.pointer (some ⟨w.heap.size + 1, 0, none⟩), .pointer (some ⟨w.heap.size, 0, none⟩)], thereB i s.held.length)] W2 (hD.below k0)
    ⟨fun p hp => by
      simp only [List.mem_cons, List.not_mem_nil, or_false] at hp
      subst hp
      exact .inl ⟨_, _, i, rfl, e2, e1, rfl⟩, fun _ => ⟨_, rfl, e3⟩⟩ (by show 1 ≤ 1000; omega) hf ho
  rw [show allB [(Value.func (.func 59) #[] #[.pointer (some ⟨w.heap.size + 1, 0, none⟩), .pointer (some ⟨w.heap.size, 0, none⟩)], thereB i s.held.length)] = thereB i s.held.length by simp [allB], hrq] at q
  refine (callsIn_wide.2 q).mono ?_
  rintro e w5 ⟨rfl, F1, hD1, hF1, hk1⟩
  clear q e1 e2 e3
  have herr := ask_err s (thereB i s.held.length)
  obtain ⟨hsame1, hsame2⟩ := ask_same s (thereB i s.held.length)
  have hokb := ask_ok s (thereB i s.held.length)
  rw [hrq] at herr hsame1 hsame2 hokb
  have hF1' : ∀ k, F1 k → F k ∨ w.heap.size ≤ k := fun k hk => by rcases hF1 k hk with h | h; exact .inl h; exact .inr (by have := k0.size; omega)
  have hk5 : Keeps w w5 F := (Keeps.of_below k0 F).trans hk1 (fun j hj => .inl hj)
  clear hrq k0 hk1 hF1
  have hpost : DiskPost w d F r.2 w5 := ⟨F1, hD1, hF1', hk5⟩
  obtain ⟨er, s1⟩ := r
  dsimp only at herr hD1 hsame1 hsame2 hokb hpost ⊢
  rcases herr with rfl | rfl | rfl
  · obtain ⟨hi0, hi1⟩ := thereB_iff.1 (hokb rfl)
    obtain ⟨vh, vp, bm, n, D, hd, hr⟩ := hD1
    have hfin : Hid (s.read i = (s.at i, 0, s1)) := Lib.hid hwr
    have f2 : w5.cell? ⟨d, 2, none⟩ = some (.map (some bm)) := hd.cell 2
    have f0 : w5.cell? ⟨d, 0, none⟩ = some vh := hd.cell 0
    obtain ⟨hs1, hs2⟩ := hr.rs i hi
    rw [hsame2] at hs1 hs2
    obtain ⟨A, c, rfl, hlc, hCh⟩ := Kd.R_reads hr.rh
    rw [hsame1] at hCh f0 hlc
    obtain ⟨ad, hA, hcell⟩ := Kd.at_string hCh i hi0 (by omega)
    subst hA
    have hm := hr.rm
    clear hwr hokb hr hCh
    cases hlast : lastOf s.pend i with
    | none =>
      have hat : Hid (s.at i = rdOf ByteArray.empty s.held i) := Lib.hid (by unfold DS.at; rw [hlast]; rfl)
      rw [hlast] at hs1
      replace hlast := Lib.hid hlast
      obtain ⟨j, hj⟩ := Int.eq_ofNat_of_zero_le hi0
      rw [hj, Int.toNat_natCast] at hcell
      generalize hx : rdOf ByteArray.empty s.held (j : Int) = x at hcell
      replace hx := Lib.hid hx
      subst hj
      gi_wp2_with (gi_at_lookup; refine wpListIn_lookup_own_ok _ rfl _ _ 89 rfl 3 9 law3 Try.underlying89 (plainElem Try.prog 9) (zero9 _) (.lit (.string [])) [] (plainElem_string Try.underlying9 (by decide)) bm n D rfl hm _ (.int .i64 (j : Int)) rfl (keyOf3 hi) ?_; intro v ps hv; obtain ⟨sv, rfl, _, _⟩ := plainElem_string_inv Try.underlying9 hv; rw [hs1]; clear hv)
      refine ⟨rfl, _, results_tmp2 rfl _ _ _, ?_⟩
      rw [hfin.out]
      refine ⟨?_, hpost⟩
      rw [hat.out, hx.out]
      rfl
    | some str =>
      have hat : Hid (s.at i = str) := Lib.hid (by unfold DS.at; rw [hlast]; rfl)
      have hv2 := hs2 str hlast (.lit (.string []))
      rw [hlast] at hs1
      replace hlast := Lib.hid hlast
      clear hcell hs2
      gi_wp2_with (gi_at_lookup; refine wpListIn_lookup_own_ok _ rfl _ _ 89 rfl 3 9 law3 Try.underlying89 (plainElem Try.prog 9) (zero9 _) (.lit (.string [])) [] (plainElem_string Try.underlying9 (by decide)) bm n D rfl hm _ (.int .i64 i) rfl (keyOf3 hi) ?_; intro v ps hv; obtain ⟨sv, rfl, hsv, _⟩ := plainElem_string_inv Try.underlying9 hv; rw [hs1]; obtain rfl : str = sv := string_ext (by rw [← hv2]; exact congrArg Prod.fst hsv); clear hv hsv)
      refine ⟨rfl, _, results_tmp2 rfl _ _ _, ?_⟩
      rw [hfin.out]
      refine ⟨?_, hpost⟩
      rw [hat.out]
      rfl
  · have hfin : Hid (s.read i = (⟨#[]⟩, 2, s1)) := Lib.hid hwr
    clear hwr hokb
    gi_wp2
    refine ⟨rfl, _, results_tmp2 rfl _ _ _, ?_⟩
    rw [hfin.out]
    exact ⟨rfl, hpost⟩
  · have hfin : Hid (s.read i = (⟨#[]⟩, 10, s1)) := Lib.hid hwr
    clear hwr hokb
    gi_wp2
    refine ⟨rfl, _, results_tmp2 rfl _ _ _, ?_⟩
    rw [hfin.out]
    exact ⟨rfl, hpost⟩
theorem read_disk_calls (d : Nat) (F : Nat → Prop) (s : DS) (i : Int) (w : World) (hD : DiskAt w d F s) (hi : (Lit.int .i64 i).wf = true)
    (hf : -1 ≤ s.fuse ∧ s.fuse ≤ 1000000) (ho : 0 ≤ s.ops ∧ s.ops ≤ 1000000) :
    Calls Try.prog 31 #[.pointer (some ⟨d, 0, none⟩), .int .i64 i] w fun e w' => e = .returned (.tuple #[.string (s.read i).1, .int .i64 (s.read i).2.1]) ∧ DiskPost w d F (s.read i).2.2 w' := (callsIn_wide (n := 9)).1 (read_disk_in d F s i w hD hi hf ho)
end Go.Proofs.Ytknibnbepmdapaa

/-
The disk: what is let come.
-/
namespace Go.Proofs.Ytknibnbepmdapaa
open Go.RowKit Go.Shelf Go.Proofs.YtknibnbepmdapaaW.PrintWords Go.Proofs.Ytknibnbepmdapaa.PFate Go.ChangeMaps Go.Maps
attribute [local go_sem] Oper.semAt_some

/-- All that is pending has come. -/
def comeAll (held : List ByteArray) (pend : List S43) : List ByteArray := pend.foldl (fun h x => h.set x.f0.toNat x.f1) held

theorem comeAll_length (pend : List S43) : ∀ held : List ByteArray, (comeAll held pend).length = held.length := by
  unfold comeAll
  induction pend with
  | nil => intro held; rfl
  | cons x pend ih => intro held; rw [List.foldl_cons, ih, List.length_set]

theorem comeAll_snoc (held : List ByteArray) (pend : List S43) (x : S43) : comeAll held (pend ++ [x]) = (comeAll held pend).set x.f0.toNat x.f1 := by simp [comeAll]

def PendOk (n : Nat) (pend : List S43) : Prop := ∀ x ∈ pend, (0 ≤ x.f0 ∧ x.f0 < n) ∧ x.f1.size = 256

theorem list_snoc_induction {α : Type} {motive : List α → Prop} (nil : motive []) (snoc : ∀ l x, motive l → motive (l ++ [x])) (l : List α) : motive l := by
  have : ∀ n (l : List α), l.length = n → motive l := by
    intro n
    induction n with
    | zero => intro l hl; rw [List.eq_nil_of_length_eq_zero hl]; exact nil
    | succ n ih =>
      intro l hl
      have hne : l ≠ [] := fun e => by rw [e] at hl; cases hl
      rw [← List.dropLast_concat_getLast hne]
      exact snoc _ _ (ih _ (by rw [List.length_dropLast, hl]; rfl))
  exact this _ l rfl

theorem comeAll_get (held : List ByteArray) (pend : List S43) (h : PendOk held.length pend) (j : Nat) (hj : j < held.length) :
    (comeAll held pend).getD j ByteArray.empty = (lastOf pend (j : Int)).getD (held.getD j ByteArray.empty) := by
  revert h
  induction pend using list_snoc_induction with
  | nil => intro _; rfl
  | snoc pend x ih =>
    intro h
    have h1 : PendOk held.length pend := fun y hy => h y (List.mem_append_left _ hy)
    obtain ⟨⟨hx0, hx1⟩, _⟩ := h x (List.mem_append_right _ List.mem_cons_self)
    rw [comeAll_snoc, lastOf_snoc]
    by_cases e : x.f0 = (j : Int)
    · rw [if_pos e, e, Int.toNat_natCast, Option.getD_some, List.getD_eq_getElem?_getD, List.getElem?_set_self (by rw [comeAll_length]; exact hj)]
      rfl
    · rw [if_neg e, List.getD_eq_getElem?_getD, List.getElem?_set_ne (by omega), ← List.getD_eq_getElem?_getD, ih h1]

theorem lastOf_mem {pend : List S43} {i : Int} {s : ByteArray} (h : lastOf pend i = some s) : ∃ x ∈ pend, x.f0 = i ∧ x.f1 = s := by
  revert h
  induction pend using list_snoc_induction with
  | nil => intro h; cases h
  | snoc pend x ih =>
    intro h
    rw [lastOf_snoc] at h
    split at h
    · rename_i e
      cases h
      exact ⟨x, List.mem_append_right _ List.mem_cons_self, e, rfl⟩
    · obtain ⟨y, hy, h1, h2⟩ := ih h
      exact ⟨y, List.mem_append_left _ hy, h1, h2⟩

/-- What a barrier comes to. -/
def DS.barrier (s : DS) : Int × DS :=
  let r := s.ask true
  if r.1 = 0 then (0, { r.2 with held := comeAll r.2.held r.2.pend, pend := [] }) else r

/-- What holds of the sectors while some of what is seen is still to come. -/
def Partly (held : List ByteArray) (pend : List S43) (left : Lit → Bool) (H : List ByteArray) : Prop :=
  H.length = held.length ∧ ∀ j, j < held.length → H.getD j ByteArray.empty = if left (.int .i64 (j : Int)) = true then held.getD j ByteArray.empty else (lastOf pend (j : Int)).getD (held.getD j ByteArray.empty)

theorem wf_nat {j : Nat} (h : j ≤ 1000000) : (Lit.int .i64 (j : Int)).wf = true := WalkArith.wf_i64 (by omega)

set_option maxRecDepth 100000 in
set_option maxHeartbeats 1600000 in
theorem barrier_in (d : Nat) (F : Nat → Prop) (s : DS) (w : World) (hD : DiskAt w d F s) (hP : PendOk s.held.length s.pend) (hn : s.held.length ≤ 100000)
    (hf : -1 ≤ s.fuse ∧ s.fuse ≤ 1000000) (ho : 0 ≤ s.ops ∧ s.ops ≤ 1000000) :
    CallsIn Fence.wide 9 Try.prog 32 #[.pointer (some ⟨d, 0, none⟩)] w fun e w' => e = .returned (.int .i64 s.barrier.1) ∧ DiskPost w d F s.barrier.2 w' := by
  have hF : ∀ f, Fence.wide.fn f := fun _ => trivial
  refine callsIn_of_wp Try.func32 rfl (hF _) ?_ rfl
  simp only [Try.ntmps32, List.size_toArray, List.length_cons, List.length_nil, Nat.reduceAdd, Nat.reduceSub, Array.replicate_succ, Array.replicate_zero, List.push_toArray, List.append_toArray, List.nil_append, List.cons_append]
  obtain ⟨r, hrq⟩ : ∃ r, s.ask true = r := ⟨_, rfl⟩
  have hwr : s.barrier = if r.1 = 0 then (0, { r.2 with held := comeAll r.2.held r.2.pend, pend := [] }) else r := by unfold DS.barrier; rw [hrq]
  have q := ask_calls d F s none 0 [] w hD ⟨fun p hp => by simp at hp, fun h => by simp at h⟩ (by show 0 ≤ 1000; omega) hf ho
  rw [show allB [] = true from rfl, hrq] at q
  gi_wp2_with fail
  refine (callsIn_wide.2 q).mono ?_
  rintro e w5 ⟨rfl, F1, hD1, hF1, hk1⟩
  clear q
  have herr := ask_err s true
  obtain ⟨hsame1, hsame2⟩ := ask_same s true
  rw [hrq] at herr hsame1 hsame2
  have hpost : DiskPost w d F r.2 w5 := ⟨F1, hD1, hF1, hk1⟩
  clear hrq
  obtain ⟨er, s1⟩ := r
  dsimp only at herr hD1 hsame1 hsame2 hpost ⊢
  rw [← hsame1, ← hsame2] at hP
  rw [← hsame1] at hn
  clear hsame1 hsame2 hD hf ho hpost
  rcases herr with rfl | rfl | rfl
  · obtain ⟨vh, vp, bm, n, D, hd, hr⟩ := hD1
    obtain ⟨held, pend, off, fuse, ops⟩ := s1
    dsimp only at hd hr hP hn
    have hfin : Hid (s.barrier = (0, ⟨comeAll held pend, [], off, fuse, ops⟩)) := Lib.hid hwr
    clear hwr
    have f2 : w5.cell? ⟨d, 2, none⟩ = some (.map (some bm)) := hd.cell 2
    gi_wp2_with (gi_at_range; refine wpListIn_range_own _ rfl _ 89 rfl 3 9 law3 Try.underlying89 (plainElem Try.prog 9) bm n D rfl hr.rm ?_; intro w6 hrg hg6 hs6)
    go_frame
    have hd6 := hd.grown hg6 (by simp)
    have hh6 := Kd.R_grown hr.rh hg6 (fun k _ => by simp)
    have hp6 := Kd.R_grown hr.rp hg6 (fun k _ => by simp)
    have hk6 : Keeps w w6 F := ⟨hg6.os.trans hk1.os, hg6.tape.trans hk1.tape, hg6.output.trans hk1.output, Nat.le_trans hk1.size hg6.size, fun k hk hnf => (hg6.block k (by have := hk1.size; omega) (by simp)).trans (hk1.block k hk hnf)⟩
    have hr0 : w.heap.size ≤ w5.heap.size := hk1.size
    have fd := hr.fd
    have fb := hr.fb
    have hlt1 := hr.lt
    have hrs := hr.rs
    have hrn := hr.rn
    have hstart : Partly held pend (Maps.has D) held := ⟨rfl, fun j hj => by
      split
      · rfl
      · rename_i hh
        obtain ⟨h1, _⟩ := hrs (j : Int) (wf_nat (by omega))
        rw [h1] at hh
        cases hl : lastOf pend (j : Int) with
        | none => rfl
        | some s => rw [hl] at hh; simp at hh⟩
    clear f2 hr hg6 hd hk1
    generalize hrq : w5.heap.size = r at *
    gi_loopw [4] (fun _ wr => ∃ left cnt H, wr.ranges Try.prog 3 (plainElem (H := Unit) Try.prog 9) bm r n D left cnt ∧ Blk wr d 91 #[vh, vp, .map (some bm), .bool off, .int .i64 fuse, .int .i64 ops] ∧
        Kd.R Kd.string 9 wr 0 F1 vh H ∧ Kd.R k43 43 wr 0 F1 vp pend ∧ Partly held pend left H ∧ (∀ kl, left kl = true → Maps.has D kl = true) ∧ Keeps w wr F ∧ r < wr.heap.size)
      (fun _ wr => wr.rangeLeft bm r)
    case atStart => exact ⟨_, _, held, hrg, hd6, hh6, hp6, hstart, fun _ h => h, hk6, by omega⟩
    case round =>
      clear hrg hd6 hh6 hp6 hstart hk6
      obtain ⟨left, cnt, H, hrg, hd, hh, hp, hpart, hleft, hk, hrlt⟩ := hrel
      rcases hrg.next law3 0 with ⟨h0, hl0, hrun⟩ | ⟨key, v, kl, y, w2, cnt2, hkey, hlk, hv, hat, hrun, hrg2, hlt2, hg2, hs2, hen⟩
      · have hH : Hid (H = comeAll held pend) := Lib.hid (by
          obtain ⟨hl, hget⟩ := hpart
          apply List.ext_getElem?
          intro j
          rcases Nat.lt_or_ge j held.length with hj | hj
          · have h1 := hget j hj
            rw [hl0, if_neg (by simp), ← comeAll_get held pend hP j hj] at h1
            have hc := comeAll_length pend held
            rw [List.getD_eq_getElem?_getD, List.getD_eq_getElem?_getD, List.getElem?_eq_getElem (by omega), List.getElem?_eq_getElem (by omega), Option.getD_some, Option.getD_some] at h1
            rw [List.getElem?_eq_getElem (by omega), List.getElem?_eq_getElem (by omega), h1]
          · rw [List.getElem?_eq_none (by omega), List.getElem?_eq_none (by rw [comeAll_length]; exact hj)])
        have hDat : DiskAt wr d F1 ⟨H, pend, off, fuse, ops⟩ := ⟨vh, vp, bm, n, D, hd, ⟨hh, hp, hrg.owns, hrs, hrn, fd, fb, fun k hk => by have := hlt1 k hk; omega⟩⟩
        clear hl0 hpart hleft
        gi_wp2_with fail
        refine (callsIn_wide.2 (settle_calls d F1 _ wr hDat)).mono ?_
        rintro e w9 ⟨rfl, F9, hD9, hF9, hk9⟩
        gi_wp2
        refine ⟨rfl, _, results_tmp rfl _ _ _, ?_⟩
        rw [hfin.out, ← hH.out]
        refine ⟨rfl, F9, hD9, fun k hk' => ?_, hk.trans hk9 hF1⟩
        rcases hF9 k hk' with h | h
        · exact hF1 k h
        · exact .inr (by have := hk.size; omega)
      · obtain ⟨x, rfl, rfl, hwx⟩ := keyOf_int_inv Try.underlying3 hkey
        obtain ⟨str, rfl, rfl, hsz⟩ := plainElem_string_inv Try.underlying9 hv
        have hx := hleft _ hlk
        obtain ⟨hx1, hx2⟩ := hrs x hwx
        rw [hx1] at hx
        obtain ⟨str', hstr⟩ := Option.isSome_iff_exists.1 hx
        obtain rfl : str = str' := string_ext (by rw [← hx2 str' hstr (.lit (.string [])), hat])
        obtain ⟨p, hp1, hp2, _⟩ := lastOf_mem hstr
        obtain ⟨⟨hr1, hr2⟩, _⟩ := hP p hp1
        rw [hp2] at hr1 hr2
        obtain ⟨j, rfl⟩ := Int.eq_ofNat_of_zero_le hr1
        have hjl : j < held.length := by omega
        obtain ⟨hHl, hHg⟩ := hpart
        have hne_d : some d ≠ some r := by have := hlt1 d fd; intro e; cases e; omega
        have hd2 := hd.grown hg2 hne_d
        have hF1r : ∀ k, F1 k → some k ≠ some r := fun k hk e => by have := hlt1 k hk; cases e; omega
        have hh2 := Kd.R_grown hh hg2 hF1r
        have hp2' := Kd.R_grown hp hg2 hF1r
        obtain ⟨g, cap, rfl, _, hgl, cells, hgc⟩ := Kd.R_form hh2 (by omega)
        have hF1g : F1 g := hh2.1 g rfl
        have hgd : g ≠ d := fun e => Kd.R_ne hh2 hd2 (by decide) (by rw [← e]; rfl)
        have hgr : g < r := by have := hlt1 g hF1g; omega
        have hgb : bm ≠ g := SeenM.ne (b := bm) hrg2.owns (g := g) (t := 9) hgc
        obtain ⟨hc0, hc1⟩ := Kd.R_cell (ByteArray.empty) hh2 (j : Int) (by omega) (by omega)
        rw [Int.toNat_natCast] at hc0 hc1
        have f0 : w2.cell? ⟨d, 0, none⟩ = some (.slice (some ⟨g, 0, none⟩) H.length cap) := hd2.cell 0
        have hjH : (j : Int) < H.length := by omega
        have hj0 : 0 ≤ (j : Int) := by omega
        have hset : w2.grownBy (w2.setCell ⟨g, j, none⟩ (.string str)) (some g) := ⟨rfl, rfl, rfl, by simp, fun k _ hk => Below.heap_setCell w2 ⟨g, j, none⟩ _ k (fun e => hk (by rw [e]))⟩
        have r1 : (w2.setCell ⟨g, j, none⟩ (.string str)).ranges Try.prog 3 (plainElem (H := Unit) Try.prog 9) bm r n D (fun z => left z && !z.sameKey (.int .i64 (j : Int))) cnt2 := hrg2.kept hset (fun e => by cases e; exact hgb rfl) (fun e => by cases e; omega)
        have r2 := hd2.grown hset (fun e => by cases e; exact hgd rfl)
        have r3 := (Kd.R_put hh2 (j : Int) str).1
        rw [Int.toNat_natCast] at r3
        have r4 := Kd.R_set hp2' hgc (by decide) j (.string str)
        have r5 : Partly held pend (fun z => left z && !z.sameKey (.int .i64 (j : Int))) (H.set j str) := by
          refine ⟨by rw [List.length_set]; exact hHl, fun j' hj' => ?_⟩
          by_cases e : j' = j
          · subst e
            show (H.set j' str).getD j' ByteArray.empty = if (left (.int .i64 (j' : Int)) && !(Lit.int .i64 (j' : Int)).sameKey (.int .i64 (j' : Int))) = true then held.getD j' ByteArray.empty else (lastOf pend (j' : Int)).getD (held.getD j' ByteArray.empty)
            rw [WideAt.sameKey_self (show WideAt.IsKeyLit (.int .i64 (j' : Int)) from trivial), Bool.not_true, Bool.and_false, if_neg (by simp), hstr, Option.getD_some, List.getD_eq_getElem?_getD, List.getElem?_set_self (by omega)]
            rfl
          · have hs : (Lit.int .i64 (j' : Int)).sameKey (.int .i64 (j : Int)) = false := by
              cases hs : (Lit.int .i64 (j' : Int)).sameKey (.int .i64 (j : Int)) with
              | false => rfl
              | true => have := WideAt.sameKey_eq hs; injection this with _ this; omega
            show (H.set j str).getD j' ByteArray.empty = if (left (.int .i64 (j' : Int)) && !(Lit.int .i64 (j' : Int)).sameKey (.int .i64 (j : Int))) = true then held.getD j' ByteArray.empty else (lastOf pend (j' : Int)).getD (held.getD j' ByteArray.empty)
            rw [hs, Bool.not_false, Bool.and_true, List.getD_eq_getElem?_getD, List.getElem?_set_ne (fun e' => e e'.symm), ← List.getD_eq_getElem?_getD]
            exact hHg j' hj'
        have r6 : ∀ kl, (left kl && !kl.sameKey (.int .i64 (j : Int))) = true → Maps.has D kl = true := fun kl h => by
          rw [Bool.and_eq_true] at h
          exact hleft kl h.1
        have r7 : Keeps w (w2.setCell ⟨g, j, none⟩ (.string str)) F := (hk.grown hg2 (.inr (by omega))).grown hset (by rcases hF1 g hF1g with h | h; exact .inl h; exact .inr h)
        have hrlt2 : r < (w2.setCell ⟨g, j, none⟩ (.string str)).heap.size := by have := hg2.size; simp; omega
        have hmeas : Hid (((w2.setCell ⟨g, j, none⟩ (.string str)).rangeLeft bm r) < wr.rangeLeft bm r) := Lib.hid (by rw [r1.left_eq, hrg.left_eq]; exact hlt2)
        clear hg2 hset hrg2 hlt2 hat hx2 hstr hx hx1 hHg hwx hv hkey hlk hp2' hd2 hh2 hgc hrg hd hh hp hleft hF1r
        gi_wp2
        go_roundw
        case rel => exact ⟨_, cnt2, H.set j str, r1, r2, r3, r4, r5, r6, r7, hrlt2⟩
        case measure => exact hmeas.out
  · have hfin : Hid (s.barrier = (2, s1)) := Lib.hid hwr
    clear hwr
    gi_wp2
    refine ⟨rfl, _, results_tmp rfl _ _ _, ?_⟩
    rw [hfin.out]
    exact ⟨rfl, F1, hD1, hF1, hk1⟩
  · have hfin : Hid (s.barrier = (10, s1)) := Lib.hid hwr
    clear hwr
    gi_wp2
    refine ⟨rfl, _, results_tmp rfl _ _ _, ?_⟩
    rw [hfin.out]
    exact ⟨rfl, F1, hD1, hF1, hk1⟩
theorem barrier_calls (d : Nat) (F : Nat → Prop) (s : DS) (w : World) (hD : DiskAt w d F s) (hP : PendOk s.held.length s.pend) (hn : s.held.length ≤ 100000)
    (hf : -1 ≤ s.fuse ∧ s.fuse ≤ 1000000) (ho : 0 ≤ s.ops ∧ s.ops ≤ 1000000) :
    Calls Try.prog 32 #[.pointer (some ⟨d, 0, none⟩)] w fun e w' => e = .returned (.int .i64 s.barrier.1) ∧ DiskPost w d F s.barrier.2 w' := (callsIn_wide (n := 9)).1 (barrier_in d F s w hD hP hn hf ho)
end Go.Proofs.Ytknibnbepmdapaa

/-
The disk: what it is behind a Boot.
-/
namespace Go.Proofs.Ytknibnbepmdapaa
open Go.RowKit Go.Shelf Go.Proofs.YtknibnbepmdapaaW.PrintWords Go.Proofs.Ytknibnbepmdapaa.PFate Go.ChangeMaps Go.Maps
attribute [local go_sem] Oper.semAt_some

/-- What a Boot leaves. -/
def DS.boot (s : DS) (cs : List Int) : DS :=
  ⟨fateAfter s.held s.pend (fateRead cs s.pend.length).1 (fateRead cs s.pend.length).2.1 (fateRead cs s.pend.length).2.2, [], false, -1, s.ops⟩

theorem Keeps.set' {w w' : World} {F F' : Nat → Prop} (h : Keeps w w' F) {d : Nat} (_ : F' d) (fd : F d ∨ w.heap.size ≤ d) (j : Nat) (u : Value) : Keeps w (w'.setCell ⟨d, j, none⟩ u) F :=
  ⟨h.os, h.tape, h.output, by have := h.size; simpa using this, fun k hk hn => (Below.heap_setCell w' ⟨d, j, none⟩ u k fun e => by have e : k = d := e; rcases fd with fd | fd; exact hn (by rw [e]; exact fd); omega).trans (h.block k hk hn)⟩

theorem Kd.R_made {α : Type} {k : Kd α} {e : Nat} {w w' : World} {v : Value} {xs : List α} (h : Kd.R k e w' w.heap.size (fun _ => True) v xs) (F : Nat → Prop) : Kd.R k e w' 0 (fun j => F j ∨ w.heap.size ≤ j) v xs :=
  Kd.R_lower (Kd.R_mono (Kd.R_bound h) (fun _ hj => .inr hj.2.1)) (Nat.zero_le _)

set_option maxRecDepth 100000 in
set_option maxHeartbeats 1600000 in
theorem boot_in (d : Nat) (F : Nat → Prop) (s : DS) (A : Option Addr) (c0 : Nat) (cs : List Int) (w : World) (hD : DiskAt w d F s) (hcs : Kd.C (Kd.int .u8) w A cs.length cs) (hc0 : cs.length ≤ c0) (hby : Bytes cs) (h256 : All256 s.held) (hn : s.held.length ≤ 100000) :
    CallsIn Fence.wide 9 Try.prog 33 #[.pointer (some ⟨d, 0, none⟩), .slice A cs.length c0] w fun e w' => e = .returned (.tuple #[]) ∧ DiskPost w d F (s.boot cs) w' := by
  have hF : ∀ f, Fence.wide.fn f := fun _ => trivial
  refine callsIn_of_wp Try.func33 rfl (hF _) ?_ rfl
  simp only [Try.ntmps33, List.size_toArray, List.length_cons, List.length_nil, Nat.reduceAdd, Nat.reduceSub, Array.replicate_succ, Array.replicate_zero, List.push_toArray, List.append_toArray, List.nil_append, List.cons_append]
  obtain ⟨vh, vp, bm, n, D, hd, hr⟩ := hD
  obtain ⟨held, pend, off, fuse, ops⟩ := s
  dsimp only at hd hr h256 hn
  obtain ⟨Ah, ch, rfl, hlh, hCh⟩ := Kd.R_reads hr.rh
  obtain ⟨Ap, cp, rfl, hlp, hCp⟩ := Kd.R_reads hr.rp
  have hlt := hr.lt
  have fd := hr.fd
  gi_wp2_with fail
  refine wpIn_region_mixed [15, 16, 17, 18, 19] [.pointer (some ⟨d, 0, none⟩), .pointer (some ⟨d, 0, none⟩), .pointer (some ⟨d, 0, none⟩), .pointer (some ⟨d, 0, none⟩), .slice Ah held.length ch, .pointer (some ⟨d, 0, none⟩), .pointer (some ⟨d, 0, none⟩), .pointer (some ⟨d, 1, none⟩), .slice Ap pend.length cp, .slice A cs.length c0, .pointer (some ⟨d, 0, none⟩), .pointer (some ⟨d, 0, none⟩), .pointer (some ⟨d, 1, none⟩), .slice Ap pend.length cp, .int .i64 pend.length] (fun W' => Below w.heap.size w W') (by kernel_rfl) (by kernel_rfl) rfl (by decide) ?fl1 ?ch1
  case fl1 =>
    intro W' hb
    have f0 : W'.cell? ⟨d, 0, none⟩ = some (.slice Ah held.length ch) := (hd.below hb).cell 0
    have f1 : W'.cell? ⟨d, 1, none⟩ = some (.slice Ap pend.length cp) := (hd.below hb).cell 1
    clear hb
    simp only [floatsFrom, List.contains_cons, List.contains_nil, Nat.reduceBEq, Nat.reduceAdd, Bool.or_false, Bool.or_true, if_true, if_false, Bool.false_eq_true, AllIn, fillT, List.setIfInBounds_toArray, List.set_cons_zero, List.set_cons_succ]
    refine ⟨?_, ?_, ?_, ?_, ?_, ?_, ?_, ?_, ?_, ?_, ?_, ?_, ?_, ?_, ?_, trivial⟩
    all_goals
      gi_wp2
      exact ⟨rfl, rfl⟩
  case ch1 =>
    simp only [floatsFrom, List.contains_cons, List.contains_nil, Nat.reduceBEq, Nat.reduceAdd, Bool.or_false, Bool.or_true, if_true, if_false, Bool.false_eq_true, fillT, List.setIfInBounds_toArray, List.set_cons_zero, List.set_cons_succ]
    refine ⟨(Below.refl _ _).drew, fun o ho => ?_⟩
    simp only [List.getElem?_toArray, List.getElem?_cons_succ, List.getElem?_cons_zero, Option.some.injEq] at ho
    subst ho
    gi_wp2_with fail
    refine (callsIn_wide.2 (read_calls A c0 cs (pend.length : Int) w.drew (Kd.C_drew hcs) hc0 hby)).mono ?_
    rintro e w1 ⟨v, rfl, hR1, hb1⟩
    have hb1' : Below w.heap.size w w1 := below_then (Below.refl _ w).drew (Nat.le_refl _) hb1
    have hszw1 := hb1'.size
    obtain ⟨FF, hFF⟩ : ∃ FF, fateRead cs (pend.length : Int) = FF := ⟨_, rfl⟩
    have hfin : Hid (DS.boot ⟨held, pend, off, fuse, ops⟩ cs = ⟨fateAfter held pend FF.1 FF.2.1 FF.2.2, [], false, -1, ops⟩) := Lib.hid (by unfold DS.boot; rw [hFF])
    rw [hFF] at hR1 ⊢
    clear hFF
    obtain ⟨fc, ft, fa⟩ := FF
    dsimp only at hR1 hfin ⊢
    obtain ⟨Af, cf, hv, _, hCf⟩ := Kd.R_reads hR1
    subst hv
    gi_wp2
    refine ⟨rfl, hb1', fun o ho => ?_⟩
    simp only [List.getElem?_toArray, List.getElem?_cons_succ, List.getElem?_cons_zero, Option.some.injEq] at ho
    subst ho
    gi_wp2_with fail
    refine (callsIn_wide.2 (after_calls Ah ch held Ap cp pend Af cf fc ft fa w1 (Kd.C_below hCh hb1') (Kd.C_below hCp hb1') hCf h256 (by omega))).mono ?_
    rintro e w2 ⟨v2, rfl, hR2, hb2⟩
    have hb2' : Below w.heap.size w w2 := below_then hb1' hb1'.size hb2
    generalize fateAfter held pend fc ft fa = R at *
    obtain ⟨Ar, cr, hv2⟩ := Kd.R_len hR2
    subst hv2
    gi_wp2
    refine ⟨rfl, hb2', fun o ho => ?_⟩
    simp only [List.getElem?_toArray, List.getElem?_cons_succ, List.getElem?_cons_zero, Option.some.injEq] at ho
    subst ho
    gi_wp2
    refine ⟨rfl, hb2', fun o ho => ?_⟩
    simp only [List.getElem?_toArray, List.getElem?_cons_succ, List.getElem?_cons_zero, Option.some.injEq] at ho
    subst ho
    gi_wp2
    refine ⟨rfl, hb2', fun o ho => ?_⟩
    simp only [List.getElem?_toArray, List.getElem?_cons_succ, List.getElem?_cons_zero, Option.some.injEq] at ho
    subst ho
    have hd2 := hd.below hb2'
    have hr2 := hr.below hb2'
    have f0 : w2.cell? ⟨d, 0, none⟩ = some (.slice Ah held.length ch) := hd2.cell 0
    have z0 := hd2.frozen 0
    have hR2' := Kd.R_made hR2 F
    clear hR1 hCf hb1 hb1' hCh hCp hR2
    gi_wp2
    refine ⟨rfl, ?_⟩
    simp only [ChainIn]
    have hsz2 := hb2.size
    have hD3 : DiskAt (w2.setCell ⟨d, 0, none⟩ (.slice Ar R.length cr)) d (fun k => (F k ∨ w1.heap.size ≤ k) ∧ k < w2.heap.size) ⟨R, pend, off, fuse, ops⟩ := by
      refine ⟨_, _, bm, n, D, hd2.set 0 _, ⟨?_, ?_, (hr2.set hd2 0 _).rm, hr.rs, hr.rn, ⟨.inl fd, hr2.lt d fd⟩, ⟨.inl hr.fb, hr2.lt bm hr.fb⟩, fun k hk => by have := hk.2; simpa using this⟩⟩
      · exact Kd.R_set (Kd.R_mono (Kd.R_bound hR2') (fun k hk => ⟨hk.1, hk.2.2.1⟩)) hd2 (by decide) 0 _
      · exact Kd.R_set (Kd.R_mono (Kd.R_bound hr2.rp) (fun k hk => ⟨.inl hk.1, hk.2.2.1⟩)) hd2 (by decide) 0 _
    have k3 : Keeps w (w2.setCell ⟨d, 0, none⟩ (.slice Ar R.length cr)) F := (Keeps.of_below hb2' F).set fd 0 _
    clear hd2 hr2 hR2' f0 z0 hd hr hb2
    generalize w2.setCell ⟨d, 0, none⟩ (.slice Ar R.length cr) = W3 at *
    have hsz1 : w.heap.size ≤ w1.heap.size := hszw1
    gi_wp2_with fail
    refine (callsIn_wide.2 (settle_calls d _ _ W3 hD3)).mono ?_
    rintro e w4 ⟨rfl, F4, hD4, hF4, hk4⟩
    obtain ⟨vh4, vp4, bm4, n4, D4, hd4, hr4⟩ := hD4
    dsimp only at hd4 hr4
    have f3 : w4.cell? ⟨d, 3, none⟩ = some (.bool off) := hd4.cell 3
    have f4 : w4.cell? ⟨d, 4, none⟩ = some (.int .i64 fuse) := hd4.cell 4
    have z3 := hd4.frozen 3
    have z4 := hd4.frozen 4
    have k4 : Keeps w w4 F := k3.trans hk4 (fun j hj => by rcases hj.1 with h | h; exact .inl h; exact .inr (by omega))
    have kk := (k4.set' hr4.fd (.inl fd) 3 (.bool false)).set' hr4.fd (.inl fd) 4 (.int .i64 (-1))
    have hF4' : ∀ k, F4 k → F k ∨ w.heap.size ≤ k := fun k hk => by
      rcases hF4 k hk with h | h
      · rcases h.1 with h | h
        · exact .inl h
        · exact .inr (by omega)
      · exact .inr (by have := k3.size; omega)
    gi_wp2
    refine ⟨rfl, _, results_no rfl _ _ _, rfl, ?_⟩
    rw [hfin.out]
    exact ⟨F4, ⟨vh4, vp4, bm4, n4, D4, (hd4.set 3 _).set 4 _, (hr4.set hd4 3 _).set (hd4.set 3 _) 4 _⟩, hF4', kk⟩
theorem boot_calls (d : Nat) (F : Nat → Prop) (s : DS) (A : Option Addr) (c0 : Nat) (cs : List Int) (w : World) (hD : DiskAt w d F s) (hcs : Kd.C (Kd.int .u8) w A cs.length cs) (hc0 : cs.length ≤ c0) (hby : Bytes cs) (h256 : All256 s.held) (hn : s.held.length ≤ 100000) :
    Calls Try.prog 33 #[.pointer (some ⟨d, 0, none⟩), .slice A cs.length c0] w fun e w' => e = .returned (.tuple #[]) ∧ DiskPost w d F (s.boot cs) w' := (callsIn_wide (n := 9)).1 (boot_in d F s A c0 cs w hD hcs hc0 hby h256 hn)
end Go.Proofs.Ytknibnbepmdapaa
