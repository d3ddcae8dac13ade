/-
The document's Read (function 15): its contract.
-/
import Derived.Test.YtknibnbepmdapaaFe
import Derived.Test.YtknibnbepmdapaaReg4
import Derived.Test.YtknibnbepmdapaaPFateReadsx1
namespace Go.Proofs.Ytknibnbepmdapaa
open Go.RowKit Go.Shelf Go.Proofs.YtknibnbepmdapaaW.PrintWords Go.Proofs.YtknibnbepmdapaaW.PrintMore
attribute [local go_sem] Oper.semAt_some

/-- The numbers of those that came among the first k. -/
def cameN (l : List Bool) (k : Nat) : List Int := (cameL l k).map fun x => (x.2.val : Int)

theorem cameN_no (l : List Bool) {k : Nat} (h : l.getD k false = false) : cameN l (k + 1) = cameN l k := by unfold cameN; rw [cameL_no l h]
theorem cameN_yes (l : List Bool) {k : Nat} (hk : k < l.length) (h : l.getD k false = true) : cameN l (k + 1) = cameN l k ++ [(k : Int)] := by
  obtain ⟨hl, e⟩ := cameL_yes l hk h
  unfold cameN
  rw [e, List.map_append]
  rfl
theorem cameN_length (l : List Bool) (k : Nat) : (cameN l k).length ≤ k := by unfold cameN; rw [List.length_map]; exact cameL_length l k

theorem came_l0 (l : List Bool) (a b : Int) (hm : l.length ≤ 17592186044416) : ∀ (d m j : Nat), j + d = l.length → d < m → PFateReads.foyerref04_Came.l0 m (cameN l j) (j : Int) l a b = some (cameN l l.length)
  | d, 0, j, _, h => by omega
  | 0, m + 1, j, hj, _ => by
    obtain rfl : j = l.length := by omega
    unfold PFateReads.foyerref04_Came.l0
    rw [if_neg (by omega)]
  | d + 1, m + 1, j, hj, h => by
    have ih := came_l0 l a b hm d m (j + 1) (by omega) (by omega)
    have hlt : j < l.length := by omega
    have hlen := cameN_length l j
    have hw : wrap64 ((j : Int) + 1) = ((j + 1 : Nat) : Int) := by unfold wrap64; omega
    unfold PFateReads.foyerref04_Came.l0
    rw [if_pos (by omega), if_pos (by omega), hw]
    have hrd : rdOf false l (j : Int) = l.getD j false := by simp [rdOf]
    rw [hrd]
    cases hb : l.getD j false with
    | true => rw [if_pos rfl, if_pos (by omega), ← cameN_yes l hlt hb]; exact ih
    | false => rw [if_neg (by simp), ← cameN_no l hb]; exact ih

theorem came_ref (A : Option Addr) (c : Nat) (l : List Bool) (a b : Int) (w : World) (hm : l.length ≤ 17592186044416) (hr : Kd.C Kd.bool w A l.length l) (hc : l.length ≤ c) :
    Calls Try.prog 51 #[.agg #[.slice A l.length c, .int .i64 a, .int .i64 b]] w fun e w' => ∃ v0_ : Value, e = .returned (v0_) ∧ Kd.R (Kd.int .i64) 3 w' w.heap.size (fun _ => True) v0_ (cameN l l.length) ∧ Below w.heap.size w w' :=
  PFateReads.foyerref04_Came.calls (l.length + 1) A c l a b (cameN l l.length) w hr hc (came_l0 l a b hm l.length (l.length + 1) 0 (by omega) (by omega))

theorem many_ref (n : Int) (w : World) : Calls Try.prog 50 #[.int .i64 n] w fun e w' => e = .returned (.int .i64 (max 0 (min n 4096))) ∧ Below w.heap.size w w' := by
  have h := PFateReads.foyerref04_many.calls n (max 0 (min n 4096)) w (by
    show some (mx 0 (mn n 4096)) = _
    unfold mx mn
    congr 1
    split <;> split <;> omega)
  exact h.mono fun e w' he => ⟨he.1, he.2⟩

def bitR (cs : List Int) (i : Nat) : Bool := decide (i / 8 < cs.length) && (cs.getD (i / 8) 0 / maskI (i % 8) % 2 == 1)
def bitsR (cs : List Int) (k : Nat) : List Bool := (List.range k).map (bitR cs)

def refReadN (cs : List Int) (N : Nat) : List Bool × Int × Int :=
  if (N + 7) / 8 + 3 ≤ cs.length ∧ cs.getD ((N + 7) / 8) 0 < 128 ∧ 0 < (cameN (bitsR cs N) N).length then
    (bitsR cs N, (cameN (bitsR cs N) N).getD (cs.getD ((N + 7) / 8) 0 % ((cameN (bitsR cs N) N).length : Int)).toNat 0, (256 * cs.getD ((N + 7) / 8 + 1) 0 + cs.getD ((N + 7) / 8 + 2) 0) % 257)
  else (bitsR cs N, -1, 0)
end Go.Proofs.Ytknibnbepmdapaa

/-
The document's Read (function 15): the walk.
-/
namespace Go.Proofs.Ytknibnbepmdapaa
open Go.RowKit Go.Shelf Go.Proofs.YtknibnbepmdapaaW.PrintWords
attribute [local go_sem] Oper.semAt_some

theorem maskI_step (j : Nat) (h : j < 7) : (maskI j * 2) % 256 = maskI (j + 1) := by
  match j, h with
  | 0, _ => decide
  | 1, _ => decide
  | 2, _ => decide
  | 3, _ => decide
  | 4, _ => decide
  | 5, _ => decide
  | 6, _ => decide

theorem cell_one_new (w : World) (x : Value) (t : TypeId) : ∀ j u, [x][j]? = some u → (w.alloc (.cells #[x] t)).cell? ((⟨w.heap.size, 0, none⟩ : Addr).add j) = some u := by
  intro j u h
  match j, h with
  | 0, h => exact ((Blk.new w t #[x]).cell 0).trans h
  | j + 1, h => simp at h

theorem wpListIn_append_run {F : Fence} {n : Nat} {P : Program} (w : World) {ops : Array Oper} {rest : List Oper} {o : Oper} {a : Act} {Q : Exit → Act → World → Prop} (hgd : o.guard = none) (d s : Operand) (t t' : TypeId)
    (ho : o.op = .call { callee := .builtin .append, args := #[d, s], argTypes := #[t, t'] }) (v u : Value) (hd : a.eval d = v) (hs : a.eval s = u) {v' : Value} {w' : World}
    (hr : (Builtin.append_ #[t, t'] o.type #[v, u]).run P w = .ok v' w') (h : wpListIn F n P ops Q rest (a.put o.dst v') w') : wpListIn F n P ops Q (o :: rest) a w := by
  refine wpListIn_plain hgd fun K hK' => ?_
  unfold Oper.wpIn
  refine ⟨?_, ?_⟩
  · simp [Oper.about, ho, resolve, Target.leads, Sem.run_pure]
  · rw [Oper.semAt_plain F _ _ (by rw [ho]; intro c hc'; cases hc')]
    simp [execOp, ho, resolve, invoke, builtin, hd, hs, hr, Result.andThen]
    exact hK' _ _ h

/-- The world is the one of so many steps. -/
def OneOf (w0 w1 w2 : World) (d : Nat) (w : World) : Prop := w = if d = 0 then w0 else if d = 1 then w1 else w2
theorem oneOf_cases {w0 w1 w2 w : World} {d : Nat} (h : OneOf w0 w1 w2 d w) : w = w0 ∨ w = w1 ∨ w = w2 := by
  unfold OneOf at h
  split at h
  · exact .inl h
  · split at h
    · exact .inr (.inl h)
    · exact .inr (.inr h)

theorem i64_at {w : World} {A : Option Addr} {n : Nat} {l : List Int} (h : Kd.C (Kd.int .i64) w A n l) {k : Nat} (hk : k < n) :
    ∃ ad, A = some ad ∧ ad.block < w.heap.size ∧ w.cell? (ad.add k) = some (.int .i64 (l.getD k 0)) := by
  obtain ⟨ad, c, hA, hl, hK, hcell⟩ := Kd.C_get h 0 (k : Int) (by omega) (by omega)
  have hcv : c = [.int .i64 (l.getD k 0)] := by have := hK; rw [Int.toNat_natCast] at this; exact this
  subst hcv
  have h0 := hcell 0 _ rfl
  rw [Int.toNat_natCast, show k * (Kd.int .i64).sz + 0 = k from by show k * 1 + 0 = k; omega] at h0
  exact ⟨ad, hA, by have := World.block_lt_of_cell? _ _ h0; rwa [add_block] at this, h0⟩

theorem maskI_pos (j : Nat) : 0 < maskI j := by unfold maskI; exact Int.natCast_pos.2 (Nat.pow_pos (by omega))

theorem bitsR_succ (cs : List Int) (k : Nat) : bitsR cs (k + 1) = bitsR cs k ++ [bitR cs k] := by simp [bitsR, List.range_succ]
theorem bitsR_length (cs : List Int) (k : Nat) : (bitsR cs k).length = k := by simp [bitsR]

set_option maxRecDepth 100000 in
set_option maxHeartbeats 1000000 in
theorem refRead_in (A : Option Addr) (c0 : Nat) (cs : List Int) (n : Int) (w : World) (hr : Kd.C (Kd.int .u8) w A cs.length cs) (hbyte : ∀ x ∈ cs, 0 ≤ x ∧ x < 256) (N : Nat) (hN : (max 0 (min n 4096)) = (N : Int)) :
    CallsIn Fence.wide 9 Try.prog 15 #[.slice A cs.length c0, .int .i64 n] w (ReadPost w (refReadN cs N)) := by
  have hF : ∀ f, Fence.wide.fn f := fun _ => trivial
  have hmax := Kd.C_max hr
  have hN' : N ≤ 4096 := by omega
  refine callsIn_of_wp Try.func15 rfl (hF _) ?_ rfl
  simp only [Try.ntmps15, List.size_toArray, List.length_cons, List.length_nil, Nat.reduceAdd, Nat.reduceSub, Array.replicate_succ, Array.replicate_zero, List.push_toArray, List.append_toArray, List.nil_append, List.cons_append]
  gi_wp2_with fail
  refine (callsIn_wide.2 (many_ref n _)).mono ?_
  rintro e w1 ⟨rfl, hb1⟩
  rw [hN]
  clear hN
  have b0 : Blk w1 w.heap.size 24 #[.slice none 0 0, .int .i64 0, .int .i64 0] := (Blk.new w 24 _).below hb1
  have hbw : Below w.heap.size w w1 := below_then (below_alloc (Below.refl _ _) _) (by simp) hb1
  have hz : w.heap.size < w1.heap.size := b0.lt
  clear hb1
  gi_wp2
  gi_loopw [7] (fun s wr => ∃ k v, k ≤ N ∧ s = .int .i64 (k : Int) ∧ Blk wr w1.heap.size 24 #[v, .int .i64 (-1), .int .i64 0] ∧ wr.ownsRow w.heap.size 4 1 v k (encs Value.bool (bitsR cs k)) ∧ Blk wr w.heap.size 24 #[.slice none 0 0, .int .i64 0, .int .i64 0] ∧ Below w.heap.size w wr)
    (fun s _ => N - (intOf s).toNat)
  case atStart =>
    exact ⟨0, .slice none 0 0, Nat.zero_le _, rfl, Blk.new w1 24 _, ⟨rfl, .inl ⟨rfl, rfl⟩⟩, b0.alloc _, below_alloc hbw _⟩
  case round =>
    obtain ⟨k, v, hk, rfl, j1, jo, j0, hbW⟩ := hrel
    by_cases hlt : k < N
    · have hklt : (k : Int) < N := by omega
      gi_wp2
      gi_loopw [8, 9] (fun s8 s9 wr' => ∃ j : Nat, j ≤ k % 8 ∧ s9 = .int .i64 (j : Int) ∧ s8 = .int .u8 (maskI j) ∧ wr = wr')
        (fun _ s9 _ => 8 - (intOf s9).toNat)
      case atStart => exact ⟨0, Nat.zero_le _, rfl, rfl, rfl⟩
      case round =>
        obtain ⟨j, hj, rfl, rfl, hw⟩ := hrel
        subst hw
        by_cases hjl : j < k % 8
        · have hjl' : (j : Int) < (k : Int) % 8 := by omega
          have hst := Lib.hid (maskI_step j (by omega))
          gi_wp2
          go_roundw
          case rel => exact ⟨j + 1, by omega, by go_num, by rw [← hst.out], trivial⟩
          case measure => simp [intOf]; omega
        · obtain rfl : j = k % 8 := by omega
          obtain ⟨mk, hmk, hmk0⟩ : ∃ mk, maskI (k % 8) = mk ∧ 0 < mk := ⟨_, rfl, maskI_pos _⟩
          rw [hmk]
          obtain ⟨b, hb⟩ : ∃ b, bitR cs k = b := ⟨_, rfl⟩
          have f1 : wr.cell? ⟨w1.heap.size, 0, none⟩ = some v := j1.cell 0
          by_cases h8 : k / 8 < cs.length
          · obtain ⟨ad, rfl, hab, hcell⟩ := byte_at hr h8
            have h8' : (k : Int) / 8 < cs.length := by omega
            have hcx : wr.cell? (ad.add (k / 8)) = some (.int .u8 (cs.getD (k / 8) 0)) := (hbW.cell (p := ad.add (k / 8)) (by rw [add_block]; exact hab)).trans hcell
            have hcb : 0 ≤ cs.getD (k / 8) 0 ∧ cs.getD (k / 8) 0 < 256 := by
              rw [List.getD_eq_getElem?_getD, List.getElem?_eq_getElem h8, Option.getD_some]; exact hbyte _ (List.getElem_mem _)
            have hbo : b = (cs.getD (k / 8) 0 / mk % 2 == 1) := by rw [← hb, ← hmk]; unfold bitR; simp [h8]
            generalize hgx : cs.getD (k / 8) 0 = cx at *
            clear hgx
            obtain ⟨q, hq⟩ : ∃ q, cx / mk = q := ⟨_, rfl⟩
            have hq0 : 0 ≤ q := by rw [← hq]; exact Int.ediv_nonneg hcb.1 (by omega)
            have hq1 : q < 256 := by rw [← hq]; exact Int.lt_of_le_of_lt (Int.ediv_le_self _ hcb.1) hcb.2
            rw [hq] at hbo
            replace hbo := Lib.hid hbo
            replace hq := Lib.hid hq
            replace hb := Lib.hid hb
            obtain ⟨i0, hi, hz0, hz1, hz2'⟩ := info_parts info4
            obtain ⟨v', W2, hrun, hown, hgrow, _⟩ := run_append_own (P := Try.prog) (wr.drew.alloc (.cells #[.bool b] 4)) w.heap.size 22 22 4 i0 (.bool false) 1 1 Try.underlying22 hi hz0 hz1 hz2' rfl (by decide) v k _ (jo.drew.alloc _) ⟨wr.heap.size, 0, none⟩ 1 1 [.bool b] rfl (cell_one_new _ _ _) (by simp [Value.oneCell']) (by unfold maxLen; omega) (by omega) (by have := hbW.size; simp; omega)
            obtain ⟨g', cap', rfl⟩ := ownsRow_succ hown
            have hB0 : Below w.heap.size w wr.drew := hbW.drew
            have hB1 : Below w.heap.size w (wr.drew.alloc (.cells #[.bool b] 4)) := below_alloc hB0 _
            have hB2 : Below w.heap.size w W2 := hB1.grown hgrow (by have := hbW.size; simp; omega) (fun k e => own_base jo k e)
            have j12 : Blk W2 w1.heap.size 24 #[v, .int .i64 (-1), .int .i64 0] := (j1.drew.alloc _).grown hgrow (own_ne jo j1 (by decide))
            have j02 : Blk W2 w.heap.size 24 #[.slice none 0 0, .int .i64 0, .int .i64 0] := (j0.drew.alloc _).grown hgrow (own_ne jo j0 (by decide))
            gi_wp2_with fail
            refine wpIn_region_twice 18 [.pointer (some ⟨w1.heap.size, 0, none⟩), v, .int .i64 k, .int .i64 ((k : Int) / 8), .slice (some ad) cs.length c0, .int .i64 cs.length, .bool true, .bool true, .slice (some ad) cs.length c0, .int .i64 k, .int .i64 ((k : Int) / 8), .pointer (some (ad.add (k / 8))), .int .u8 cx, .int .u8 mk, .int .u8 q, .int .u8 (q % 2), .bool b, .bool b, .slice (some ⟨wr.heap.size, 0, none⟩) 1 1, .slice (some ⟨g', 0, none⟩) (k + 1) cap']
              (OneOf wr.drew (wr.drew.alloc (.cells #[.bool b] 4)) W2) (by kernel_rfl) (by kernel_rfl) rfl rfl ?step rfl ?make rfl (List.mem_of_elem_eq_true (by kernel_rfl)) ?more ?tail
            case step =>
              intro d W' hW
              obtain ⟨g1, g2⟩ : W'.cell? ⟨w1.heap.size, 0, none⟩ = some v ∧ W'.cell? (ad.add (k / 8)) = some (.int .u8 cx) := by
                rcases oneOf_cases hW with rfl | rfl | rfl
                · exact ⟨f1, hcx⟩
                · exact ⟨(j1.drew.alloc _).cell 0, (hB1.cell (p := ad.add (k / 8)) (by rw [add_block]; exact hab)).trans hcell⟩
                · exact ⟨j12.cell 0, (hB2.cell (p := ad.add (k / 8)) (by rw [add_block]; exact hab)).trans hcell⟩
              have hW := Lib.hid hW
              simp only [List.take_succ_cons, List.take_zero, AllIn, fillT, List.setIfInBounds_toArray, List.set_cons_zero, List.set_cons_succ]
              refine ⟨?_, ?_, ?_, ?_, ?_, ?_, ?_, ?_, ?_, ?_, ?_, ?_, ?_, ?_, ?_, ?_, ?_, ?_, trivial⟩
              all_goals
                gi_wp2
                first | exact ⟨rfl, hW.out⟩ | (refine ⟨?_, hW.out⟩; congr 1; congr 1; simp only [List.cons.injEq, true_and, and_true, Value.int.injEq, Value.bool.injEq]; first | exact hq.out | exact hbo.out.symm)
            case make =>
              intro W' hW
              obtain rfl : W' = wr.drew := hW
              simp only [List.take_succ_cons, List.take_zero, fillT, List.setIfInBounds_toArray, List.set_cons_zero, List.set_cons_succ]
              gi_wp2
              exact ⟨rfl, rfl⟩
            case more =>
              intro W' hW
              obtain rfl : W' = wr.drew.alloc (.cells #[.bool b] 4) := hW
              simp only [List.take_succ_cons, List.take_zero, fillT, List.setIfInBounds_toArray, List.set_cons_zero, List.set_cons_succ]
              refine wpListIn_append_run _ rfl _ _ _ _ rfl _ _ rfl rfl hrun ?_
              exact ⟨rfl, rfl⟩
            case tail =>
              intro W' hW
              obtain rfl : W' = W2 := hW
              have f4 := j12.frozen 0
              have f5 := j12.cell 0
              simp only [List.take_succ_cons, List.take_zero, List.drop_succ_cons, List.drop_zero, fillT, List.setIfInBounds_toArray, List.set_cons_zero, List.set_cons_succ]
              gi_wp2
              go_roundw
              case rel =>
                refine ⟨k + 1, .slice (some ⟨g', 0, none⟩) (k + 1) cap', by omega, by go_num, j12.set 0 _, ?_, j02.stay (by omega) _, hB2.setCell (p := ⟨w1.heap.size, 0, none⟩) (by show _ ≤ w1.heap.size; omega) _⟩
                have := own_setCell (p := ⟨w1.heap.size, 0, none⟩) hown (own_ne hown j12 (by decide)) (.slice (some ⟨g', 0, none⟩) (k + 1) cap')
                rw [bitsR_succ, hb.out, encs_append]
                exact this
              case measure => simp [intOf]; omega
          · have hbo : b = false := by rw [← hb]; unfold bitR; simp [h8]
            subst hbo
            have h8' : decide ((k : Int) / 8 < (cs.length : Int)) = false := by rw [decide_eq_false_iff_not]; omega
            replace hb := Lib.hid hb
            obtain ⟨i0, hi, hz0, hz1, hz2'⟩ := info_parts info4
            obtain ⟨v', W2, hrun, hown, hgrow, _⟩ := run_append_own (P := Try.prog) (wr.drew.alloc (.cells #[.bool false] 4)) w.heap.size 22 22 4 i0 (.bool false) 1 1 Try.underlying22 hi hz0 hz1 hz2' rfl (by decide) v k _ (jo.drew.alloc _) ⟨wr.heap.size, 0, none⟩ 1 1 [.bool false] rfl (cell_one_new _ _ _) (by simp [Value.oneCell']) (by unfold maxLen; omega) (by omega) (by have := hbW.size; simp; omega)
            obtain ⟨g', cap', rfl⟩ := ownsRow_succ hown
            have hB0 : Below w.heap.size w wr.drew := hbW.drew
            have hB1 : Below w.heap.size w (wr.drew.alloc (.cells #[.bool false] 4)) := below_alloc hB0 _
            have hB2 : Below w.heap.size w W2 := hB1.grown hgrow (by have := hbW.size; simp; omega) (fun k e => own_base jo k e)
            have j12 : Blk W2 w1.heap.size 24 #[v, .int .i64 (-1), .int .i64 0] := (j1.drew.alloc _).grown hgrow (own_ne jo j1 (by decide))
            have j02 : Blk W2 w.heap.size 24 #[.slice none 0 0, .int .i64 0, .int .i64 0] := (j0.drew.alloc _).grown hgrow (own_ne jo j0 (by decide))
            gi_wp2_with fail
            refine wpIn_region_twice 18 [.pointer (some ⟨w1.heap.size, 0, none⟩), v, .int .i64 k, .int .i64 ((k : Int) / 8), .slice A cs.length c0, .int .i64 cs.length, .bool false, .bool false, undef, undef, undef, undef, undef, undef, undef, undef, undef, .bool false, .slice (some ⟨wr.heap.size, 0, none⟩) 1 1, .slice (some ⟨g', 0, none⟩) (k + 1) cap']
              (OneOf wr.drew (wr.drew.alloc (.cells #[.bool false] 4)) W2) (by kernel_rfl) (by kernel_rfl) rfl rfl ?step rfl ?make rfl (List.mem_of_elem_eq_true (by kernel_rfl)) ?more ?tail
            case step =>
              intro d W' hW
              have g1 : W'.cell? ⟨w1.heap.size, 0, none⟩ = some v := by
                rcases oneOf_cases hW with rfl | rfl | rfl
                · exact f1
                · exact (j1.drew.alloc _).cell 0
                · exact j12.cell 0
              have hW := Lib.hid hW
              simp only [List.take_succ_cons, List.take_zero, AllIn, fillT, List.setIfInBounds_toArray, List.set_cons_zero, List.set_cons_succ]
              refine ⟨?_, ?_, ?_, ?_, ?_, ?_, ?_, ?_, ?_, ?_, ?_, ?_, ?_, ?_, ?_, ?_, ?_, ?_, trivial⟩
              all_goals
                gi_wp2
                exact ⟨rfl, hW.out⟩
            case make =>
              intro W' hW
              obtain rfl : W' = wr.drew := hW
              simp only [List.take_succ_cons, List.take_zero, fillT, List.setIfInBounds_toArray, List.set_cons_zero, List.set_cons_succ]
              gi_wp2
              exact ⟨rfl, rfl⟩
            case more =>
              intro W' hW
              obtain rfl : W' = wr.drew.alloc (.cells #[.bool false] 4) := hW
              simp only [List.take_succ_cons, List.take_zero, fillT, List.setIfInBounds_toArray, List.set_cons_zero, List.set_cons_succ]
              refine wpListIn_append_run _ rfl _ _ _ _ rfl _ _ rfl rfl hrun ?_
              exact ⟨rfl, rfl⟩
            case tail =>
              intro W' hW
              obtain rfl : W' = W2 := hW
              have f4 := j12.frozen 0
              have f5 := j12.cell 0
              simp only [List.take_succ_cons, List.take_zero, List.drop_succ_cons, List.drop_zero, fillT, List.setIfInBounds_toArray, List.set_cons_zero, List.set_cons_succ]
              gi_wp2
              go_roundw
              case rel =>
                refine ⟨k + 1, .slice (some ⟨g', 0, none⟩) (k + 1) cap', by omega, by go_num, j12.set 0 _, ?_, j02.stay (by omega) _, hB2.setCell (p := ⟨w1.heap.size, 0, none⟩) (by show _ ≤ w1.heap.size; omega) _⟩
                have := own_setCell (p := ⟨w1.heap.size, 0, none⟩) hown (own_ne hown j12 (by decide)) (.slice (some ⟨g', 0, none⟩) (k + 1) cap')
                rw [bitsR_succ, hb.out, encs_append]
                exact this
              case measure => simp [intOf]; omega
    · obtain rfl : k = N := by omega
      have hbl := bitsR_length cs k
      have hR : Kd.R Kd.bool 4 wr w.heap.size (fun _ => True) v (bitsR cs k) := Kd.R_of_own (by rw [hbl]; exact jo) (fun _ _ => trivial)
      obtain ⟨Av, cv, hv, hlc, hCv⟩ := Kd.R_reads hR
      rw [hbl] at hv hlc
      subst hv
      have hcm := came_ref Av cv (bitsR cs k) (-1) 0 wr (by omega) hCv (by omega)
      rw [hbl] at hcm
      have f0 : wr.cell? ⟨w1.heap.size, 0, none⟩ = some (.slice Av k cv) := j1.cell 0
      have f1 : wr.cell? ⟨w1.heap.size, 1, none⟩ = some (.int .i64 (-1)) := j1.cell 1
      have f2 : wr.cell? ⟨w1.heap.size, 2, none⟩ = some (.int .i64 0) := j1.cell 2
      gi_wp2_with fail
      refine (callsIn_wide.2 hcm).mono ?_
      rintro e W1 ⟨v0, rfl, hRc, hb1⟩
      obtain ⟨Ac, cc, rfl, hcl, hCc⟩ := Kd.R_reads hRc
      obtain ⟨nb, hnb, hnb'⟩ : ∃ nb : Nat, ((k : Int) + 7) / 8 = (nb : Int) ∧ (k + 7) / 8 = nb := ⟨(k + 7) / 8, by omega, rfl⟩
      have hfin : Hid (refReadN cs k = if nb + 3 ≤ cs.length ∧ cs.getD nb 0 < 128 ∧ 0 < (cameN (bitsR cs k) k).length then
          (bitsR cs k, (cameN (bitsR cs k) k).getD (cs.getD nb 0 % ((cameN (bitsR cs k) k).length : Int)).toNat 0, (256 * cs.getD (nb + 1) 0 + cs.getD (nb + 2) 0) % 257)
        else (bitsR cs k, -1, 0)) := Lib.hid (by unfold refReadN; rw [hnb'])
      generalize cameN (bitsR cs k) k = L at *
      obtain ⟨m, hm⟩ : ∃ m, L.length = m := ⟨_, rfl⟩
      rw [hm] at hfin hcl hCc ⊢
      rw [hnb]
      have hnbb : nb ≤ 513 := by omega
      replace hnb := Lib.hid hnb
      replace hnb' := Lib.hid hnb'
      have hmx := Kd.C_max hCc
      replace hm := Lib.hid hm
      have j1' := j1.below hb1
      have j0' := j0.below hb1
      have hbq := below_then hbW hbW.size hb1
      have hR1 : Kd.R Kd.bool 4 W1 w.heap.size (fun _ => True) (.slice Av k cv) (bitsR cs k) := Kd.R_of_own (by rw [hbl]; exact pw_own_below jo hb1) (fun _ _ => trivial)
      have hR' : Kd.R Kd.bool 4 W1 w.heap.size (fun k => k ≠ w.heap.size ∧ k ≠ w1.heap.size) (.slice Av k cv) (bitsR cs k) := Kd.R_of_own (by rw [hbl]; exact pw_own_below jo hb1) (fun g hg => ⟨fun e => by subst e; exact own_ne (pw_own_below jo hb1) j0' (by decide) hg.symm, fun e => by subst e; exact own_ne (pw_own_below jo hb1) j1' (by decide) hg.symm⟩)
      have g0 : W1.cell? ⟨w1.heap.size, 0, none⟩ = some (.slice Av k cv) := j1'.cell 0
      have g1 : W1.cell? ⟨w1.heap.size, 1, none⟩ = some (.int .i64 (-1)) := j1'.cell 1
      have g2 : W1.cell? ⟨w1.heap.size, 2, none⟩ = some (.int .i64 0) := j1'.cell 2
      have g3 : W1.cell? ⟨w.heap.size, 0, none⟩ = some (.slice none 0 0) := j0'.cell 0
      have g4 : W1.cell? ⟨w.heap.size, 1, none⟩ = some (.int .i64 0) := j0'.cell 1
      have g5 : W1.cell? ⟨w.heap.size, 2, none⟩ = some (.int .i64 0) := j0'.cell 2
      have g6 := j0'.frozen 0
      have g7 := j0'.frozen 1
      have g8 := j0'.frozen 2
      replace hbl := Lib.hid hbl
      by_cases h3 : nb + 3 ≤ cs.length
      · have h3' : (nb : Int) + 3 ≤ cs.length := by omega
        obtain ⟨ad, rfl, hab, hc1⟩ := byte_at hr (show nb < cs.length by omega)
        obtain ⟨ad1, ha1, _, hc2⟩ := byte_at hr (show nb + 1 < cs.length by omega)
        obtain ⟨ad2, ha2, _, hc3⟩ := byte_at hr (show nb + 2 < cs.length by omega)
        cases ha1
        cases ha2
        have hy0 : 0 ≤ cs.getD nb 0 ∧ cs.getD nb 0 < 256 := hbyte _ (by rw [List.getD_eq_getElem?_getD, List.getElem?_eq_getElem (show nb < cs.length by omega)]; exact List.getElem_mem _)
        have hy1 : 0 ≤ cs.getD (nb + 1) 0 ∧ cs.getD (nb + 1) 0 < 256 := hbyte _ (by rw [List.getD_eq_getElem?_getD, List.getElem?_eq_getElem (show nb + 1 < cs.length by omega)]; exact List.getElem_mem _)
        have hy2 : 0 ≤ cs.getD (nb + 2) 0 ∧ cs.getD (nb + 2) 0 < 256 := hbyte _ (by rw [List.getD_eq_getElem?_getD, List.getElem?_eq_getElem (show nb + 2 < cs.length by omega)]; exact List.getElem_mem _)
        obtain ⟨r0, hr0⟩ : ∃ r, cs.getD nb 0 = r := ⟨_, rfl⟩
        obtain ⟨r1, hr1⟩ : ∃ r, cs.getD (nb + 1) 0 = r := ⟨_, rfl⟩
        obtain ⟨r2, hr2⟩ : ∃ r, cs.getD (nb + 2) 0 = r := ⟨_, rfl⟩
        rw [hr0] at hc1 hy0 hfin
        rw [hr1] at hc2 hy1 hfin
        rw [hr2] at hc3 hy2 hfin
        clear hr0 hr1 hr2
        obtain ⟨hy0a, hy0b⟩ := hy0
        have g9 : W1.cell? (ad.add nb) = some (.int .u8 r0) := (hbq.cell (p := ad.add nb) (by rw [add_block]; exact hab)).trans hc1
        have hl1 : (nb : Int) < cs.length := by omega
        by_cases h128 : r0 < 128
        · rcases Nat.eq_zero_or_pos m with hm0 | hm0
          · subst hm0
            replace hfin : Hid (refReadN cs k = (bitsR cs k, -1, 0)) := Lib.hid (by rw [hfin.out, if_neg (fun h => by have := h.2.2; have := hm.out; omega)])
            gi_wp2
            have q0 := ((j0'.set 0 (.slice Av k cv)).set 1 (.int .i64 (-1))).set 2 (.int .i64 0)
            refine ⟨rfl, _, results_blk (fs := _) rfl rfl q0 Try.underlying24 (by kernel_rfl), ?_⟩
            rw [hfin.out]
            exact ⟨_, rfl, Kd.R_far (Kd.R_far (Kd.R_far hR' (p := ⟨w.heap.size, 0, none⟩) (fun _ h => h.1) _) (p := ⟨w.heap.size, 1, none⟩) (fun _ h => h.1) _) (p := ⟨w.heap.size, 2, none⟩) (fun _ h => h.1) _ |> fun h => Kd.R_mono h (fun _ _ => trivial), ((hbq.setCell (p := ⟨w.heap.size, 0, none⟩) (Nat.le_refl _) _).setCell (p := ⟨w.heap.size, 1, none⟩) (Nat.le_refl _) _).setCell (p := ⟨w.heap.size, 2, none⟩) (Nat.le_refl _) _⟩
          · obtain ⟨hy1a, hy1b⟩ := hy1
            obtain ⟨hy2a, hy2b⟩ := hy2
            have hm0' : (0 : Int) < m := by omega
            obtain ⟨t, ht, ht0, ht1⟩ : ∃ t : Nat, r0 % (m : Int) = (t : Int) ∧ 0 ≤ t ∧ t < m := by
              have h1 := Int.emod_nonneg r0 (show (m : Int) ≠ 0 by omega)
              have h2 := Int.emod_lt_of_pos r0 hm0'
              exact ⟨(r0 % (m : Int)).toNat, by omega, by omega, by omega⟩
            obtain ⟨adc, rfl, habc, hct⟩ := i64_at hCc ht1
            obtain ⟨tv, htv⟩ : ∃ tv, L.getD t 0 = tv := ⟨_, rfl⟩
            rw [htv] at hct
            have ht1' : (t : Int) < m := by omega
            replace hfin : Hid (refReadN cs k = (bitsR cs k, tv, (256 * r1 + r2) % 257)) := Lib.hid (by
              rw [hfin.out, if_pos ⟨h3, h128, hm0⟩, ht, Int.toNat_natCast, htv])
            clear htv
            obtain ⟨x, hx⟩ : ∃ x, 256 * r1 + r2 = x := ⟨_, rfl⟩
            have hx0 : 0 ≤ x := by omega
            have hx1 : x < 65792 := by omega
            have hm1 : ¬ m = 0 := by omega
            have hm2 : ((m : Int) == 0) = false := by rw [beq_eq_false_iff_ne]; omega
            rw [hx] at hfin
            replace hx := Lib.hid hx
            have g10 := j1'.frozen 1
            have hnw : ¬ w.heap.size = w1.heap.size := by omega
            have hnw' : ¬ w1.heap.size = w.heap.size := by omega
            gi_wp2
            obtain ⟨X, hX⟩ : ∃ X, W1.setCell ⟨w1.heap.size, 1, none⟩ (.int .i64 tv) = X := ⟨_, rfl⟩
            rw [hX]
            have x1 : Blk X w1.heap.size 24 #[.slice Av k cv, .int .i64 tv, .int .i64 0] := by rw [← hX]; exact j1'.set 1 _
            have x0 : Blk X w.heap.size 24 #[.slice none 0 0, .int .i64 0, .int .i64 0] := by rw [← hX]; exact j0'.stay hnw _
            have xb : Below w.heap.size w X := by rw [← hX]; exact hbq.setCell (p := ⟨w1.heap.size, 1, none⟩) (by show _ ≤ w1.heap.size; omega) _
            have xR : Kd.R Kd.bool 4 X w.heap.size (fun k => k ≠ w.heap.size ∧ k ≠ w1.heap.size) (.slice Av k cv) (bitsR cs k) := by rw [← hX]; exact Kd.R_far hR' (p := ⟨w1.heap.size, 1, none⟩) (fun _ h => h.2) _
            clear hX g0 g1 g2 g3 g4 g5 g6 g7 g8 g9 g10 j1' j0' hbq hR' hR1
            refine wpIn_region_phases 15 [.slice (some ad) cs.length c0, .int .i64 nb, .int .i64 ((nb : Int) + 1), .pointer (some ⟨ad.block, ad.off + (nb + 1), none⟩), .int .u8 r1, .int .i64 r1, .int .i64 (256 * r1), .slice (some ad) cs.length c0, .int .i64 nb, .int .i64 ((nb : Int) + 2), .pointer (some ⟨ad.block, ad.off + (nb + 2), none⟩), .int .u8 r2, .int .i64 r2, .int .i64 x, .int .i64 (x % 257)]
              (fun W' => Below X.heap.size X W') (by kernel_rfl) (by kernel_rfl) rfl (Below.refl _ _).drew ?step2 ?tail2
            case step2 =>
              intro W' hb
              have g3 : W'.cell? (ad.add (nb + 1)) = some (.int .u8 r1) := ((below_then xb xb.size hb).cell (p := ad.add (nb + 1)) (by rw [add_block]; exact hab)).trans hc2
              have g4 : W'.cell? (ad.add (nb + 2)) = some (.int .u8 r2) := ((below_then xb xb.size hb).cell (p := ad.add (nb + 2)) (by rw [add_block]; exact hab)).trans hc3
              have g3' : W'.cell? ⟨ad.block, ad.off + (nb + 1), none⟩ = some (.int .u8 r1) := by simpa [Addr.add] using g3
              have g4' : W'.cell? ⟨ad.block, ad.off + (nb + 2), none⟩ = some (.int .u8 r2) := by simpa [Addr.add] using g4
              have e1 : ((nb : Int) + 1).toNat = nb + 1 := by omega
              have e2 : ((nb : Int) + 2).toNat = nb + 2 := by omega
              have hl2 : (nb : Int) + 1 < cs.length := by omega
              have hl3 : (nb : Int) + 2 < cs.length := by omega
              have hp2 : 0 ≤ (nb : Int) + 1 := by omega
              have hp3 : 0 ≤ (nb : Int) + 2 := by omega
              replace hb := Lib.hid hb
              simp only [List.take_succ_cons, List.take_zero, AllIn, fillT, List.setIfInBounds_toArray, List.set_cons_zero, List.set_cons_succ]
              refine ⟨?_, ?_, ?_, ?_, ?_, ?_, ?_, ?_, ?_, ?_, ?_, ?_, ?_, ?_, ?_, trivial⟩
              all_goals
                gi_wp2
                first | exact ⟨rfl, hb.out⟩ | (refine ⟨?_, hb.out⟩; congr 1; congr 1; simp only [List.cons.injEq, true_and, and_true, Value.int.injEq]; exact hx.out)
            case tail2 =>
              intro W' hb
              have j1' := x1.below hb
              have j0' := x0.below hb
              have hbq := below_then xb xb.size hb
              have hR' := Kd.R_below xR hb
              have g0 : W'.cell? ⟨w1.heap.size, 0, none⟩ = some (.slice Av k cv) := j1'.cell 0
              have g1 : W'.cell? ⟨w1.heap.size, 1, none⟩ = some (.int .i64 tv) := j1'.cell 1
              have g2 : W'.cell? ⟨w1.heap.size, 2, none⟩ = some (.int .i64 0) := j1'.cell 2
              have g3 : W'.cell? ⟨w.heap.size, 0, none⟩ = some (.slice none 0 0) := j0'.cell 0
              have g4 : W'.cell? ⟨w.heap.size, 1, none⟩ = some (.int .i64 0) := j0'.cell 1
              have g5 : W'.cell? ⟨w.heap.size, 2, none⟩ = some (.int .i64 0) := j0'.cell 2
              have g6 := j0'.frozen 0
              have g7 := j0'.frozen 1
              have g8 := j0'.frozen 2
              have g9 := j1'.frozen 2
              replace hb := Lib.hid hb
              simp only [List.take_succ_cons, List.take_zero, List.drop_succ_cons, List.drop_zero, fillT, List.setIfInBounds_toArray, List.set_cons_zero, List.set_cons_succ]
              gi_wp2
              have q0 := ((j0'.stay (b := w1.heap.size) (o := 2) hnw (.int .i64 (x % 257))).set 0 (.slice Av k cv)).set 1 (.int .i64 tv) |>.set 2 (.int .i64 (x % 257))
              refine ⟨rfl, _, results_blk (fs := _) rfl rfl q0 Try.underlying24 (by kernel_rfl), ?_⟩
              rw [hfin.out]
              exact ⟨_, rfl, Kd.R_far (Kd.R_far (Kd.R_far (Kd.R_far hR' (p := ⟨w1.heap.size, 2, none⟩) (fun _ h => h.2) _) (p := ⟨w.heap.size, 0, none⟩) (fun _ h => h.1) _) (p := ⟨w.heap.size, 1, none⟩) (fun _ h => h.1) _) (p := ⟨w.heap.size, 2, none⟩) (fun _ h => h.1) _ |> fun h => Kd.R_mono h (fun _ _ => trivial), (((hbq.setCell (p := ⟨w1.heap.size, 2, none⟩) (by show _ ≤ w1.heap.size; omega) _).setCell (p := ⟨w.heap.size, 0, none⟩) (Nat.le_refl _) _).setCell (p := ⟨w.heap.size, 1, none⟩) (Nat.le_refl _) _).setCell (p := ⟨w.heap.size, 2, none⟩) (Nat.le_refl _) _⟩
        · have h128' : 128 ≤ r0 := by omega
          replace hfin : Hid (refReadN cs k = (bitsR cs k, -1, 0)) := Lib.hid (by rw [hfin.out, if_neg (fun h => h128 h.2.1)])
          gi_wp2
          have q0 := ((j0'.set 0 (.slice Av k cv)).set 1 (.int .i64 (-1))).set 2 (.int .i64 0)
          refine ⟨rfl, _, results_blk (fs := _) rfl rfl q0 Try.underlying24 (by kernel_rfl), ?_⟩
          rw [hfin.out]
          exact ⟨_, rfl, Kd.R_far (Kd.R_far (Kd.R_far hR' (p := ⟨w.heap.size, 0, none⟩) (fun _ h => h.1) _) (p := ⟨w.heap.size, 1, none⟩) (fun _ h => h.1) _) (p := ⟨w.heap.size, 2, none⟩) (fun _ h => h.1) _ |> fun h => Kd.R_mono h (fun _ _ => trivial), ((hbq.setCell (p := ⟨w.heap.size, 0, none⟩) (Nat.le_refl _) _).setCell (p := ⟨w.heap.size, 1, none⟩) (Nat.le_refl _) _).setCell (p := ⟨w.heap.size, 2, none⟩) (Nat.le_refl _) _⟩
      · have h3' : (cs.length : Int) < (nb : Int) + 3 := by omega
        replace hfin : Hid (refReadN cs k = (bitsR cs k, -1, 0)) := Lib.hid (by rw [hfin.out, if_neg (fun h => h3 h.1)])
        gi_wp2
        have q0 := ((j0'.set 0 (.slice Av k cv)).set 1 (.int .i64 (-1))).set 2 (.int .i64 0)
        refine ⟨rfl, _, results_blk (fs := _) rfl rfl q0 Try.underlying24 (by kernel_rfl), ?_⟩
        rw [hfin.out]
        exact ⟨_, rfl, Kd.R_far (Kd.R_far (Kd.R_far hR' (p := ⟨w.heap.size, 0, none⟩) (fun _ h => h.1) _) (p := ⟨w.heap.size, 1, none⟩) (fun _ h => h.1) _) (p := ⟨w.heap.size, 2, none⟩) (fun _ h => h.1) _ |> fun h => Kd.R_mono h (fun _ _ => trivial), ((hbq.setCell (p := ⟨w.heap.size, 0, none⟩) (Nat.le_refl _) _).setCell (p := ⟨w.heap.size, 1, none⟩) (Nat.le_refl _) _).setCell (p := ⟨w.heap.size, 2, none⟩) (Nat.le_refl _) _⟩

def refRead (cs : List Int) (n : Int) : List Bool × Int × Int := refReadN cs (max 0 (min n 4096)).toNat

/-- **The document's Read.** -/
theorem refRead_calls (A : Option Addr) (c0 : Nat) (cs : List Int) (n : Int) (w : World) (hr : Kd.C (Kd.int .u8) w A cs.length cs) (hbyte : ∀ x ∈ cs, 0 ≤ x ∧ x < 256) :
    Calls Try.prog 15 #[.slice A cs.length c0, .int .i64 n] w (ReadPost w (refRead cs n)) :=
  (callsIn_wide (n := 9)).1 (refRead_in A c0 cs n w hr hbyte _ (by omega))
end Go.Proofs.Ytknibnbepmdapaa

/-
The plain law of Read: the program's and the document's are one.
-/
namespace Go.Proofs.Ytknibnbepmdapaa
open Go.RowKit Go.Shelf Go.Proofs.YtknibnbepmdapaaW.PrintWords

theorem bit_all : ((List.range 256).all fun c => (List.range 8).all fun j => (bits .and .u8 (c : Int) (maskI j) != 0) == ((c : Int) / maskI j % 2 == 1)) = true := by kernel_rfl

theorem bit_eq (c : Int) (h0 : 0 ≤ c) (h1 : c < 256) (j : Nat) (hj : j < 8) : (bits .and .u8 c (maskI j) != 0) = (c / maskI j % 2 == 1) := by
  obtain ⟨n, rfl⟩ := Int.eq_ofNat_of_zero_le h0
  have h := List.all_eq_true.1 bit_all n (List.mem_range.2 (by omega))
  have h := List.all_eq_true.1 h j (List.mem_range.2 hj)
  exact eq_of_beq h

def Bytes (cs : List Int) : Prop := ∀ x ∈ cs, 0 ≤ x ∧ x < 256

theorem Bytes.getD {cs : List Int} (h : Bytes cs) (i : Nat) : 0 ≤ cs.getD i 0 ∧ cs.getD i 0 < 256 := by
  rw [List.getD_eq_getElem?_getD]
  by_cases hi : i < cs.length
  · rw [List.getElem?_eq_getElem hi]; exact h _ (List.getElem_mem _)
  · rw [List.getElem?_eq_none (by omega)]; exact ⟨by decide, by decide⟩

theorem bitR_eq {cs : List Int} (h : Bytes cs) (i : Nat) : bitR cs i = bitOf cs i := by
  unfold bitR bitOf
  rw [bit_eq _ (h.getD _).1 (h.getD _).2 _ (by omega)]

theorem bitsR_eq {cs : List Int} (h : Bytes cs) (N : Nat) : bitsR cs N = readBits cs N N := by
  apply List.ext_getElem
  · simp [bitsR, readBits]
  · intro i h1 h2
    simp [bitsR] at h1
    simp [bitsR, readBits, bitR_eq h, h1]

theorem readBits_getD (cs : List Int) {N i : Nat} (hi : i < N) : (readBits cs N N).getD i false = bitOf cs i := by
  simp [readBits, hi]

theorem cameL_many (cs : List Int) {N : Nat} : ∀ k, k ≤ N → (cameL (readBits cs N N) k).length = manyOf cs k
  | 0, _ => rfl
  | k + 1, hk => by
    have ih := cameL_many cs (N := N) k (by omega)
    have hkl : k < (readBits cs N N).length := by rw [readBits_length]; omega
    rw [manyOf_succ, ← readBits_getD cs (N := N) (i := k) (by omega)]
    cases hb : (readBits cs N N).getD k false with
    | true =>
      obtain ⟨hl, e⟩ := cameL_yes (readBits cs N N) hkl hb
      rw [e, List.length_append, List.length_singleton]
      simp [ih]
    | false => rw [cameL_no _ hb, ih]; simp

/-- The elements are numbered. -/
theorem cameL_fst (l : List Bool) : ∀ (k j : Nat) (x : Fin l.length × Fin l.length), (cameL l k)[j]? = some x → x.1.val = j
  | 0, j, x, h => by simp [cameL] at h
  | k + 1, j, x, h => by
    by_cases hk : k < l.length
    · cases hb : l.getD k false with
      | true =>
        obtain ⟨hl, e⟩ := cameL_yes l hk hb
        rw [e] at h
        rcases Nat.lt_or_ge j (cameL l k).length with hj | hj
        · rw [List.getElem?_append_left hj] at h; exact cameL_fst l k j x h
        · rw [List.getElem?_append_right hj] at h
          rw [List.getElem?_singleton] at h
          split at h
          · cases h; simp; omega
          · cases h
      | false => rw [cameL_no l hb] at h; exact cameL_fst l k j x h
    · unfold cameL at h
      rw [dif_neg (by omega)] at h
      exact cameL_fst l k j x h

theorem tornOf_far {N : Nat} (t : Int) : ∀ (xs : List (Fin N × Fin N)) (a : Int), (∀ x ∈ xs, (x.1.val : Int) ≠ t) → xs.foldl (fun r x => if (x.1.val : Int) = t then (x.2.val : Int) else r) a = a
  | [], _, _ => rfl
  | x :: xs, a, h => by
    rw [List.foldl_cons, if_neg (h x List.mem_cons_self)]
    exact tornOf_far t xs a fun y hy => h y (List.mem_cons_of_mem _ hy)

theorem tornOf_at {N : Nat} (xs : List (Fin N × Fin N)) (hx : ∀ (j : Nat) (x : Fin N × Fin N), xs[j]? = some x → x.1.val = j) {t : Nat} {y : Fin N × Fin N} (hy : xs[t]? = some y) : tornOf (t : Int) xs = (y.2.val : Int) := by
  obtain ⟨hlt, rfl⟩ := List.getElem?_eq_some_iff.1 hy
  have hsplit : xs = xs.take t ++ xs[t] :: xs.drop (t + 1) := by rw [List.getElem_cons_drop hlt, List.take_append_drop]
  have hv := hx t _ hy
  generalize xs[t] = y at hsplit hv
  have h1 : ((y.1.val : Nat) : Int) = (t : Int) := by rw [hv]
  unfold tornOf
  rw [hsplit, List.foldl_append, List.foldl_cons, if_pos h1]
  refine tornOf_far _ _ _ fun x hx' => ?_
  obtain ⟨j, hj⟩ := List.mem_iff_getElem?.1 hx'
  rw [List.getElem?_drop] at hj
  have := hx _ _ hj
  omega

theorem drop_getD (cs : List Int) (a i : Nat) : (cs.drop a).getD i 0 = cs.getD (a + i) 0 := by
  rw [List.getD_eq_getElem?_getD, List.getD_eq_getElem?_getD, List.getElem?_drop]

theorem refReadN_eq {cs : List Int} (h : Bytes cs) (N : Nat) : refReadN cs N = fateReadN cs N := by
  unfold refReadN fateReadN
  rw [bitsR_eq h]
  simp only [drop_getD, List.length_drop, Nat.add_zero]
  have hm : (cameN (readBits cs N N) N).length = manyOf cs N := by unfold cameN; rw [List.length_map, cameL_many cs N (Nat.le_refl _)]
  have e : cameL (readBits cs N N) (readBits cs N N).length = cameL (readBits cs N N) N := congrArg (cameL (readBits cs N N)) (readBits_length cs N N)
  rw [hm, e]
  by_cases hc : cs.length - (N + 7) / 8 < 3 ∨ 127 < cs.getD ((N + 7) / 8) 0 ∨ manyOf cs N = 0
  · rw [if_pos hc, if_neg]
    rintro ⟨h1, h2, h3⟩
    rcases hc with hc | hc | hc <;> omega
  · rw [if_neg hc, if_pos ⟨by omega, by omega, by omega⟩]
    have hmp : (0 : Int) < manyOf cs N := by omega
    obtain ⟨t, ht⟩ : ∃ t : Nat, cs.getD ((N + 7) / 8) 0 % (manyOf cs N : Int) = (t : Int) := Int.eq_ofNat_of_zero_le (Int.emod_nonneg _ (by omega))
    have htl : t < manyOf cs N := by have := Int.emod_lt_of_pos (cs.getD ((N + 7) / 8) 0) hmp; omega
    rw [ht, Int.toNat_natCast]
    have hlen : t < (cameL (readBits cs N N) N).length := by rw [cameL_many cs N (Nat.le_refl _)]; exact htl
    rw [tornOf_at (cameL (readBits cs N N) N) (cameL_fst _ N) (List.getElem?_eq_getElem hlen)]
    have : (cameN (readBits cs N N) N).getD t 0 = (((cameL (readBits cs N N) N)[t].2.val : Nat) : Int) := by
      unfold cameN
      rw [List.getD_eq_getElem?_getD, List.getElem?_map, List.getElem?_eq_getElem hlen]
      rfl
    rw [this, Int.mul_comm 256]

theorem refRead_eq {cs : List Int} (h : Bytes cs) (n : Int) : refRead cs n = fateRead cs n := by
  unfold refRead fateRead
  rw [show (max 0 (min n 4096)) = (min (max n 0) 4096) by omega, refReadN_eq h]
end Go.Proofs.Ytknibnbepmdapaa
