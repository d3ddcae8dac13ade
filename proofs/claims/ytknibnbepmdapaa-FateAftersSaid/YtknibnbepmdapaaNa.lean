/-
FateAfters: the walk of its body.
-/
import Derived.Test.YtknibnbepmdapaaMb
import Derived.Test.YtknibnbepmdapaaReg3
namespace Go.Proofs.Ytknibnbepmdapaa
open Go.RowKit Go.Shelf Go.Proofs.YtknibnbepmdapaaW.PrintWords Go.Proofs.YtknibnbepmdapaaW.PrintMore Go.Proofs.Ytknibnbepmdapaa.PFate
attribute [local go_sem] Oper.semAt_some

theorem secsOf_at (l : List Int) {k : Nat} (h : k < (secsOf l).length) : k < l.length ∧ rdOf ByteArray.empty (secsOf l) (k : Int) = secS (rd l (k : Int)) := by
  unfold secsOf at h ⊢
  rw [List.length_map, List.length_take] at h
  refine ⟨by omega, ?_⟩
  unfold rdOf rd
  rw [Int.toNat_natCast, List.getD_eq_getElem?_getD, List.getD_eq_getElem?_getD, List.getElem?_map, List.getElem?_take, if_pos (by omega), List.getElem?_eq_getElem (by omega)]
  rfl

set_option maxRecDepth 100000 in
set_option maxHeartbeats 1600000 in
theorem fateAfters_in (A0 : Option Addr) (c0 : Nat) (l0 : List Int) (A1 : Option Addr) (c1 : Nat) (L1 : List S88) (A2 : Option Addr) (c2 : Nat) (l2 : List Int) (w : World)
    (hr0 : Kd.C (Kd.int .u8) w A0 l0.length l0) (hc0 : l0.length ≤ c0) (hr1 : Kd.C k88 w A1 L1.length L1) (hc1 : L1.length ≤ c1) (hL : ∀ x ∈ L1, Lay8 x) (hr2 : Kd.C (Kd.int .u8) w A2 l2.length l2) (hb2 : Bytes l2) :
    CallsIn Fence.wide 9 Try.prog 4 #[.slice A0 l0.length c0, .slice A1 L1.length c1, .slice A2 l2.length c2] w fun e w' => e = .returned (.bool true) ∧ Below w.heap.size w w' := by
  have hF : ∀ f, Fence.wide.fn f := fun _ => trivial
  obtain ⟨k0, e0⟩ := sectorsP l0
  obtain ⟨k1, e1⟩ := writesP L1 hL
  have hS := secsOf_all l0
  have hS8 := secsOf_length l0
  have hSa : ∀ k, k < (secsOf l0).length → k < l0.length ∧ rdOf ByteArray.empty (secsOf l0) (k : Int) = secS (rd l0 (k : Int)) := fun k h => secsOf_at l0 h
  have hW20 := writesOf_length L1
  have q1 := foyerlaw04_sectors.calls k0 A0 c0 l0 (secsOf l0) w hr0 hc0 e0
  have q2 : ∀ wx, Kd.C k88 wx A1 L1.length L1 → _ := fun wx hx => foyerlaw04_writes.calls k1 A1 c1 L1 (writesOf L1) wx hx hc1 e1
  clear e0 e1
  generalize secsOf l0 = S at *
  generalize writesOf L1 = W at *
  obtain ⟨hmay, _⟩ := read_may l2 hb2 W.length
  have hC := fateReadN_length l2 W.length
  have hr : fateRead l2 (W.length : Int) = fateReadN l2 W.length := by
    unfold fateRead
    rw [show (min (max (W.length : Int) 0) 4096).toNat = W.length by omega]
  refine callsIn_of_wp Try.func4 rfl (hF _) ?_ rfl
  simp only [Try.ntmps4, List.size_toArray, List.length_cons, List.length_nil, Nat.reduceAdd, Nat.reduceSub, Array.replicate_succ, Array.replicate_zero, List.push_toArray, List.append_toArray, List.nil_append, List.cons_append]
  gi_wp2_with fail
  refine (callsIn_wide.2 q1).mono ?_
  rintro e w1 ⟨v1, rfl, hR1, hb1⟩
  obtain ⟨As, cs, rfl, hlcs, hCs⟩ := Kd.R_reads hR1
  clear hR1 q1
  gi_wp2_with fail
  refine (callsIn_wide.2 (q2 w1 (Kd.C_below hr1 hb1))).mono ?_
  rintro e w2 ⟨v2, rfl, hR2, hb2'⟩
  obtain ⟨Aw, cw, rfl, hlcw, hCw⟩ := Kd.R_reads hR2
  have hbw2 := below_then hb1 hb1.size hb2'
  replace hCs := Kd.C_below hCs hb2'
  clear hR2 q2
  gi_wp2_with fail
  refine (callsIn_wide.2 (readRef_calls A2 c2 l2 (W.length : Int) w2 (Kd.C_below hr2 hbw2) hb2)).mono ?_
  rintro e w3 ⟨v3, rfl, hR3, hb3⟩
  rw [hr] at hR3 ⊢
  clear hr
  generalize fateReadN l2 W.length = F at *
  obtain ⟨C, t, a⟩ := F
  dsimp only at hmay hC hR3 ⊢
  obtain ⟨ha0, ha1⟩ := mayB_at hmay
  obtain ⟨Ac, cc, rfl, hlcc, hCc⟩ := Kd.R_reads hR3
  have hbw3 := below_then hbw2 hbw2.size hb3
  replace hCs := Kd.C_below hCs hb3
  replace hCw := Kd.C_below hCw hb3
  have hr0' := Kd.C_below hr0 hbw3
  clear hR3 hmay hb1 hb2' hb3 hbw2
  -- TAIL
  replace hC := Lib.hid hC
  have i0 : ∀ w, (Instr.index 37 (.agg #[.slice Ac C.length cc, .int .i64 t, .int .i64 a, .slice Ac C.length cc, .int .i64 t, .int .i64 (a * 7 - 300)]) (.int .i64 0)).run Try.prog w = .ok (.agg #[.slice Ac C.length cc, .int .i64 t, .int .i64 a]) w := fun w => by kernel_rfl
  have i1 : ∀ w, (Instr.index 37 (.agg #[.slice Ac C.length cc, .int .i64 t, .int .i64 a, .slice Ac C.length cc, .int .i64 t, .int .i64 (a * 7 - 300)]) (.int .i64 1)).run Try.prog w = .ok (.agg #[.slice Ac C.length cc, .int .i64 t, .int .i64 (a * 7 - 300)]) w := fun w => by kernel_rfl
  gi_wp2_with fail
  obtain ⟨X, hX⟩ : ∃ X, (w3.alloc (.cells #[.slice Ac C.length cc, .int .i64 t, .int .i64 a] 24)).alloc (.cells #[.slice Ac C.length cc, .int .i64 t, .int .i64 (a * 7 - 300)] 24) = X := ⟨_, rfl⟩
  rw [hX]
  have hbX : Below w.heap.size w X := by rw [← hX]; exact below_alloc (below_alloc hbw3 _) _
  have hb3X : Below w3.heap.size w3 X := by rw [← hX]; exact below_alloc (below_alloc (Below.refl _ _) _) _
  replace hCs := Kd.C_below hCs hb3X
  replace hCw := Kd.C_below hCw hb3X
  replace hCc := Kd.C_below hCc hb3X
  replace hr0' := Kd.C_below hr0' hb3X
  clear hX hb3X hbw3
  gi_loopw [33] (fun s wr => ∃ i : Nat, i ≤ 2 ∧ s = .int .i64 (i : Int) ∧ Below X.heap.size X wr)
    (fun s _ => 2 - (intOf s).toNat)
  case atStart => exact ⟨0, by decide, rfl, Below.refl _ _⟩
  case round =>
    obtain ⟨i, hi, rfl, hbW⟩ := hrel
    rcases (by omega : i = 0 ∨ i = 1 ∨ i = 2) with rfl | rfl | rfl
    · obtain ⟨wo, rfl⟩ : ∃ wo : World, wo = wr := ⟨_, rfl⟩
      gi_wp2_with fail
      obtain ⟨Y, hY⟩ : ∃ Y, wo.alloc (.cells #[.slice Ac C.length cc, .int .i64 t, .int .i64 a] 24) = Y := ⟨_, rfl⟩
      have bY : Blk Y wo.heap.size 24 #[.slice Ac C.length cc, .int .i64 t, .int .i64 a] := by rw [← hY]; exact Blk.new wo 24 _
      have hbY : Below X.heap.size X Y := by rw [← hY]; exact below_alloc hbW _
      rw [hY]
      clear hY
      refine wpIn_region_mixed [3, 7, 8, 9] [.slice As S.length cs, .slice Aw W.length cw, .agg #[.slice Ac C.length cc, .int .i64 t, .int .i64 a], .slice As S.length cs, .slice Aw W.length cw, .agg #[.slice Ac C.length cc, .int .i64 t, .int .i64 a]] (fun W' => Below Y.heap.size Y W') (by kernel_rfl) (by kernel_rfl) rfl (by decide) ?fl0 ?ch0
      case fl0 =>
        intro W' hb
        have f0 : W'.cell? ⟨wo.heap.size, 0, none⟩ = some (.slice Ac C.length cc) := (bY.below hb).cell 0
        have f1 : W'.cell? ⟨wo.heap.size, 1, none⟩ = some (.int .i64 t) := (bY.below hb).cell 1
        have f2 : W'.cell? ⟨wo.heap.size, 2, none⟩ = some (.int .i64 a) := (bY.below hb).cell 2
        replace hb := Lib.hid hb
        simp only [floatsFrom, List.contains_cons, List.contains_nil, Nat.reduceBEq, Nat.reduceAdd, Bool.or_false, Bool.or_true, if_true, if_false, Bool.false_eq_true, AllIn, fillT, List.setIfInBounds_toArray, List.set_cons_zero, List.set_cons_succ]
        refine ⟨?_, ?_, ?_, ?_, ?_, ?_, trivial⟩
        all_goals
          gi_wp2
          exact ⟨rfl, rfl⟩
      case ch0 =>
        simp only [floatsFrom, List.contains_cons, List.contains_nil, Nat.reduceBEq, Nat.reduceAdd, Bool.or_false, Bool.or_true, if_true, if_false, Bool.false_eq_true, fillT, List.setIfInBounds_toArray, List.set_cons_zero, List.set_cons_succ]
        refine ⟨(Below.refl _ _).drew, fun o ho => ?_⟩
        simp only [List.getElem?_toArray, List.getElem?_cons_succ, List.getElem?_cons_zero, Option.some.injEq] at ho
        subst ho
        have hcs := Kd.C_drew (Kd.C_below hCs hbY)
        have hcw := Kd.C_drew (Kd.C_below hCw hbY)
        have hcc := Kd.C_drew (Kd.C_below hCc hbY)
        gi_wp2_with fail
        refine (callsIn_wide.2 (after_calls As cs S Aw cw W Ac cc C t a Y.drew hcs hcw hcc hS (by omega))).mono ?_
        rintro e y1 ⟨u1, rfl, hU1, hy1⟩
        obtain ⟨Ar, cr, hu1, hlr, hCr⟩ := Kd.R_reads hU1
        obtain ⟨R, hRe⟩ : ∃ R, fateAfter S W C t a = R := ⟨_, rfl⟩
        have hRl : (fateAfter S W C t a).length = S.length := afterFold_length W t a _ S
        rw [hRe] at hu1 hlr hCr hU1 hRl
        rw [hRl] at hu1 hlr hCr
        subst hu1
        have hbY1 := below_then (Below.refl _ Y).drew (Nat.le_refl _) hy1
        gi_wp2
        refine ⟨rfl, hbY1, fun o ho => ?_⟩
        simp only [List.getElem?_toArray, List.getElem?_cons_succ, List.getElem?_cons_zero, Option.some.injEq] at ho
        subst ho
        have hcs1 := Kd.C_below hCs (below_then hbY hbY.size hbY1)
        have hcw1 := Kd.C_below hCw (below_then hbY hbY.size hbY1)
        have hcc1 := Kd.C_below hCc (below_then hbY hbY.size hbY1)
        gi_wp2_with fail
        have q9 := refAfter_calls As cs S Aw cw W Ac cc C t a y1 hcs1 hlcs hcw1 hlcw hcc1 hlcc hS (by omega) (by omega) (by rw [hC.out]; omega)
        rw [hRe] at q9
        refine (callsIn_wide.2 q9).mono ?_
        clear q9
        rintro e y2 ⟨u2, rfl, hU2, hy2⟩
        obtain ⟨Ar2, cr2, hu2, hlr2, hCr2⟩ := Kd.R_reads hU2
        rw [hRl] at hu2 hlr2 hCr2
        clear hRl
        subst hu2
        have hbY2 := below_then hbY1 hbY1.size hy2
        gi_wp2
        refine ⟨rfl, hbY2, fun o ho => ?_⟩
        simp only [List.getElem?_toArray, List.getElem?_cons_succ, List.getElem?_cons_zero, Option.some.injEq] at ho
        subst ho
        gi_wp2
        refine ⟨rfl, hbY2, fun o ho => ?_⟩
        simp only [List.getElem?_toArray, List.getElem?_cons_succ, List.getElem?_cons_zero, Option.some.injEq] at ho
        subst ho
        gi_wp2
        refine ⟨rfl, ?_⟩
        simp only [ChainIn]
        replace hCr := Kd.C_below hCr hy2
        have hbX2 := below_then hbY hbY.size hbY2
        have hcs2 := Kd.C_below hCs hbX2
        have hc02 := Kd.C_below hr0' hbX2
        clear hcs hcw hcc hcs1 hcw1 hcc1 hU1 hU2 hy1 hy2 hbY1 hbY2 bY hbY hRe
        gi_wp2_with fail
        gi_loopw [15] (fun s wv => ∃ k : Nat, k ≤ S.length ∧ s = .int .i64 (k : Int) ∧ Below y2.heap.size y2 wv)
          (fun s _ => S.length - (intOf s).toNat)
        case atStart => exact ⟨0, Nat.zero_le _, rfl, Below.refl _ _⟩
        case round =>
          obtain ⟨k, hk, rfl, hbV⟩ := hrel
          rcases Nat.lt_or_ge k S.length with hkl | hkl
          · have hki : (k : Int) < S.length := by omega
            obtain ⟨hk0, hkS⟩ := hSa k (by omega)
            obtain ⟨ad1, e1, h1⟩ := Kd.at_string (Kd.C_below hCr hbV) (k : Int) (by omega) (by omega)
            obtain ⟨ad2, e2, h2⟩ := Kd.at_string (Kd.C_below hCr2 hbV) (k : Int) (by omega) (by omega)
            obtain ⟨ad3, e3, h3⟩ := Kd.at_string (Kd.C_below hcs2 hbV) (k : Int) (by omega) (by omega)
            obtain ⟨ad4, e4, h4⟩ := Kd.at_int (Kd.C_below hc02 hbV) (k : Int) (by omega) (by omega)
            subst e1 e2 e3 e4
            rw [hkS] at h3
            rw [Int.toNat_natCast] at h1 h2 h3 h4
            generalize rdOf ByteArray.empty R (k : Int) = x at *
            generalize rd l0 (k : Int) = b at *
            clear hkS
            have hkS' : (k : Int) < S.length := by omega
            have hk0' : (k : Int) < l0.length := by omega
            have hp : 0 ≤ (k : Int) := by omega
            gi_wp2_with fail
            refine wpIn_region_phases 21 [.slice (some ad1) S.length cr, .int .i64 k, .pointer (some (ad1.add k)), .string x, .slice (some ad2) S.length cr2, .int .i64 k, .pointer (some (ad2.add k)), .string x, .bool false, .bool false, .slice (some ad3) S.length cs, .int .i64 k, .pointer (some (ad3.add k)), .string (secS b), .slice (some ad4) l0.length c0, .int .i64 k, .pointer (some (ad4.add k)), .int .u8 b, .string (secS b), .bool false, .bool false]
              (fun W' => Below wr.heap.size wr W') (by kernel_rfl) (by kernel_rfl) rfl (Below.refl _ _).drew ?st0 ?ta0
            case st0 =>
              intro W' hb
              have g1 : W'.cell? (ad1.add k) = some (.string x) := (hb.cell (World.block_lt_of_cell? _ _ h1)).trans h1
              have g2 : W'.cell? (ad2.add k) = some (.string x) := (hb.cell (World.block_lt_of_cell? _ _ h2)).trans h2
              have g3 : W'.cell? (ad3.add k) = some (.string (secS b)) := (hb.cell (World.block_lt_of_cell? _ _ h3)).trans h3
              have g4 : W'.cell? (ad4.add k) = some (.int .u8 b) := (hb.cell (World.block_lt_of_cell? _ _ h4)).trans h4
              replace hb := Lib.hid hb
              simp only [List.take_succ_cons, List.take_zero, AllIn, fillT, List.setIfInBounds_toArray, List.set_cons_zero, List.set_cons_succ]
              refine ⟨?_, ?_, ?_, ?_, ?_, ?_, ?_, ?_, ?_, ?_, ?_, ?_, ?_, ?_, ?_, ?_, ?_, ?_, ?_, ?_, ?_, trivial⟩
              all_goals
                gi_wp2_with (gi_at_call 21; refine (callsIn_wide.2 (sector_ref _ _)).mono ?_; rintro e w' ⟨rfl, hbm⟩)
                first | exact ⟨rfl, hb.out⟩ | exact ⟨rfl, below_step hb.out hbm⟩
            case ta0 =>
              intro W' hb
              simp only [List.take_succ_cons, List.take_zero, List.drop_succ_cons, List.drop_nil, fillT, List.setIfInBounds_toArray, List.set_cons_zero, List.set_cons_succ]
              replace hb := Lib.hid hb
              gi_wp2
              go_roundw
              case rel => exact ⟨k + 1, by omega, by go_num, below_then hbV hbV.size hb.out⟩
              case measure => simp [intOf]; omega
          · obtain rfl : k = S.length := by omega
            gi_wp2
            go_roundw
            case rel => exact ⟨1, by decide, rfl, below_then hbX2 hbX2.size hbV⟩
            case measure => simp [intOf]
    · obtain ⟨wo, rfl⟩ : ∃ wo : World, wo = wr := ⟨_, rfl⟩
      gi_wp2_with fail
      obtain ⟨Y, hY⟩ : ∃ Y, wo.alloc (.cells #[.slice Ac C.length cc, .int .i64 t, .int .i64 (a * 7 - 300)] 24) = Y := ⟨_, rfl⟩
      have bY : Blk Y wo.heap.size 24 #[.slice Ac C.length cc, .int .i64 t, .int .i64 (a * 7 - 300)] := by rw [← hY]; exact Blk.new wo 24 _
      have hbY : Below X.heap.size X Y := by rw [← hY]; exact below_alloc hbW _
      rw [hY]
      clear hY
      refine wpIn_region_mixed [3, 7, 8, 9] [.slice As S.length cs, .slice Aw W.length cw, .agg #[.slice Ac C.length cc, .int .i64 t, .int .i64 (a * 7 - 300)], .slice As S.length cs, .slice Aw W.length cw, .agg #[.slice Ac C.length cc, .int .i64 t, .int .i64 (a * 7 - 300)]] (fun W' => Below Y.heap.size Y W') (by kernel_rfl) (by kernel_rfl) rfl (by decide) ?fl1 ?ch1
      case fl1 =>
        intro W' hb
        have f0 : W'.cell? ⟨wo.heap.size, 0, none⟩ = some (.slice Ac C.length cc) := (bY.below hb).cell 0
        have f1 : W'.cell? ⟨wo.heap.size, 1, none⟩ = some (.int .i64 t) := (bY.below hb).cell 1
        have f2 : W'.cell? ⟨wo.heap.size, 2, none⟩ = some (.int .i64 (a * 7 - 300)) := (bY.below hb).cell 2
        replace hb := Lib.hid hb
        simp only [floatsFrom, List.contains_cons, List.contains_nil, Nat.reduceBEq, Nat.reduceAdd, Bool.or_false, Bool.or_true, if_true, if_false, Bool.false_eq_true, AllIn, fillT, List.setIfInBounds_toArray, List.set_cons_zero, List.set_cons_succ]
        refine ⟨?_, ?_, ?_, ?_, ?_, ?_, trivial⟩
        all_goals
          gi_wp2
          exact ⟨rfl, rfl⟩
      case ch1 =>
        simp only [floatsFrom, List.contains_cons, List.contains_nil, Nat.reduceBEq, Nat.reduceAdd, Bool.or_false, Bool.or_true, if_true, if_false, Bool.false_eq_true, fillT, List.setIfInBounds_toArray, List.set_cons_zero, List.set_cons_succ]
        refine ⟨(Below.refl _ _).drew, fun o ho => ?_⟩
        simp only [List.getElem?_toArray, List.getElem?_cons_succ, List.getElem?_cons_zero, Option.some.injEq] at ho
        subst ho
        have hcs := Kd.C_drew (Kd.C_below hCs hbY)
        have hcw := Kd.C_drew (Kd.C_below hCw hbY)
        have hcc := Kd.C_drew (Kd.C_below hCc hbY)
        gi_wp2_with fail
        refine (callsIn_wide.2 (after_calls As cs S Aw cw W Ac cc C t (a * 7 - 300) Y.drew hcs hcw hcc hS (by omega))).mono ?_
        rintro e y1 ⟨u1, rfl, hU1, hy1⟩
        obtain ⟨Ar, cr, hu1, hlr, hCr⟩ := Kd.R_reads hU1
        obtain ⟨R, hRe⟩ : ∃ R, fateAfter S W C t (a * 7 - 300) = R := ⟨_, rfl⟩
        have hRl : (fateAfter S W C t (a * 7 - 300)).length = S.length := afterFold_length W t (a * 7 - 300) _ S
        rw [hRe] at hu1 hlr hCr hU1 hRl
        rw [hRl] at hu1 hlr hCr
        subst hu1
        have hbY1 := below_then (Below.refl _ Y).drew (Nat.le_refl _) hy1
        gi_wp2
        refine ⟨rfl, hbY1, fun o ho => ?_⟩
        simp only [List.getElem?_toArray, List.getElem?_cons_succ, List.getElem?_cons_zero, Option.some.injEq] at ho
        subst ho
        have hcs1 := Kd.C_below hCs (below_then hbY hbY.size hbY1)
        have hcw1 := Kd.C_below hCw (below_then hbY hbY.size hbY1)
        have hcc1 := Kd.C_below hCc (below_then hbY hbY.size hbY1)
        gi_wp2_with fail
        have q9 := refAfter_calls As cs S Aw cw W Ac cc C t (a * 7 - 300) y1 hcs1 hlcs hcw1 hlcw hcc1 hlcc hS (by omega) (by omega) (by rw [hC.out]; omega)
        rw [hRe] at q9
        refine (callsIn_wide.2 q9).mono ?_
        clear q9
        rintro e y2 ⟨u2, rfl, hU2, hy2⟩
        obtain ⟨Ar2, cr2, hu2, hlr2, hCr2⟩ := Kd.R_reads hU2
        rw [hRl] at hu2 hlr2 hCr2
        clear hRl
        subst hu2
        have hbY2 := below_then hbY1 hbY1.size hy2
        gi_wp2
        refine ⟨rfl, hbY2, fun o ho => ?_⟩
        simp only [List.getElem?_toArray, List.getElem?_cons_succ, List.getElem?_cons_zero, Option.some.injEq] at ho
        subst ho
        gi_wp2
        refine ⟨rfl, hbY2, fun o ho => ?_⟩
        simp only [List.getElem?_toArray, List.getElem?_cons_succ, List.getElem?_cons_zero, Option.some.injEq] at ho
        subst ho
        gi_wp2
        refine ⟨rfl, ?_⟩
        simp only [ChainIn]
        replace hCr := Kd.C_below hCr hy2
        have hbX2 := below_then hbY hbY.size hbY2
        have hcs2 := Kd.C_below hCs hbX2
        have hc02 := Kd.C_below hr0' hbX2
        clear hcs hcw hcc hcs1 hcw1 hcc1 hU1 hU2 hy1 hy2 hbY1 hbY2 bY hbY hRe
        gi_wp2_with fail
        gi_loopw [15] (fun s wv => ∃ k : Nat, k ≤ S.length ∧ s = .int .i64 (k : Int) ∧ Below y2.heap.size y2 wv)
          (fun s _ => S.length - (intOf s).toNat)
        case atStart => exact ⟨0, Nat.zero_le _, rfl, Below.refl _ _⟩
        case round =>
          obtain ⟨k, hk, rfl, hbV⟩ := hrel
          rcases Nat.lt_or_ge k S.length with hkl | hkl
          · have hki : (k : Int) < S.length := by omega
            obtain ⟨hk0, hkS⟩ := hSa k (by omega)
            obtain ⟨ad1, e1, h1⟩ := Kd.at_string (Kd.C_below hCr hbV) (k : Int) (by omega) (by omega)
            obtain ⟨ad2, e2, h2⟩ := Kd.at_string (Kd.C_below hCr2 hbV) (k : Int) (by omega) (by omega)
            obtain ⟨ad3, e3, h3⟩ := Kd.at_string (Kd.C_below hcs2 hbV) (k : Int) (by omega) (by omega)
            obtain ⟨ad4, e4, h4⟩ := Kd.at_int (Kd.C_below hc02 hbV) (k : Int) (by omega) (by omega)
            subst e1 e2 e3 e4
            rw [hkS] at h3
            rw [Int.toNat_natCast] at h1 h2 h3 h4
            generalize rdOf ByteArray.empty R (k : Int) = x at *
            generalize rd l0 (k : Int) = b at *
            clear hkS
            have hkS' : (k : Int) < S.length := by omega
            have hk0' : (k : Int) < l0.length := by omega
            have hp : 0 ≤ (k : Int) := by omega
            gi_wp2_with fail
            refine wpIn_region_phases 21 [.slice (some ad1) S.length cr, .int .i64 k, .pointer (some (ad1.add k)), .string x, .slice (some ad2) S.length cr2, .int .i64 k, .pointer (some (ad2.add k)), .string x, .bool false, .bool false, .slice (some ad3) S.length cs, .int .i64 k, .pointer (some (ad3.add k)), .string (secS b), .slice (some ad4) l0.length c0, .int .i64 k, .pointer (some (ad4.add k)), .int .u8 b, .string (secS b), .bool false, .bool false]
              (fun W' => Below wr.heap.size wr W') (by kernel_rfl) (by kernel_rfl) rfl (Below.refl _ _).drew ?st1 ?ta1
            case st1 =>
              intro W' hb
              have g1 : W'.cell? (ad1.add k) = some (.string x) := (hb.cell (World.block_lt_of_cell? _ _ h1)).trans h1
              have g2 : W'.cell? (ad2.add k) = some (.string x) := (hb.cell (World.block_lt_of_cell? _ _ h2)).trans h2
              have g3 : W'.cell? (ad3.add k) = some (.string (secS b)) := (hb.cell (World.block_lt_of_cell? _ _ h3)).trans h3
              have g4 : W'.cell? (ad4.add k) = some (.int .u8 b) := (hb.cell (World.block_lt_of_cell? _ _ h4)).trans h4
              replace hb := Lib.hid hb
              simp only [List.take_succ_cons, List.take_zero, AllIn, fillT, List.setIfInBounds_toArray, List.set_cons_zero, List.set_cons_succ]
              refine ⟨?_, ?_, ?_, ?_, ?_, ?_, ?_, ?_, ?_, ?_, ?_, ?_, ?_, ?_, ?_, ?_, ?_, ?_, ?_, ?_, ?_, trivial⟩
              all_goals
                gi_wp2_with (gi_at_call 21; refine (callsIn_wide.2 (sector_ref _ _)).mono ?_; rintro e w' ⟨rfl, hbm⟩)
                first | exact ⟨rfl, hb.out⟩ | exact ⟨rfl, below_step hb.out hbm⟩
            case ta1 =>
              intro W' hb
              simp only [List.take_succ_cons, List.take_zero, List.drop_succ_cons, List.drop_nil, fillT, List.setIfInBounds_toArray, List.set_cons_zero, List.set_cons_succ]
              replace hb := Lib.hid hb
              gi_wp2
              go_roundw
              case rel => exact ⟨k + 1, by omega, by go_num, below_then hbV hbV.size hb.out⟩
              case measure => simp [intOf]; omega
          · obtain rfl : k = S.length := by omega
            gi_wp2
            go_roundw
            case rel => exact ⟨2, by decide, rfl, below_then hbX2 hbX2.size hbV⟩
            case measure => simp [intOf]
    · gi_wp2_with fail
      refine (callsIn_wide.2 (works_calls _)).mono ?_
      rintro e w9 ⟨rfl, hb9⟩
      gi_wp2
      exact ⟨rfl, _, results_tmp rfl _ _ _, rfl, below_then (below_then hbX hbX.size hbW) (Nat.le_trans hbX.size hbW.size) hb9⟩
end Go.Proofs.Ytknibnbepmdapaa
