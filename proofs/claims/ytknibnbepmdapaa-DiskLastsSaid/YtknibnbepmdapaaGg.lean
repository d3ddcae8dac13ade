/-
Sectors of one letter; what After does to them, in plain words.
-/
import Derived.Test.YtknibnbepmdapaaGb
import Derived.Test.YtknibnbepmdapaaGe
import Derived.Test.YtknibnbepmdapaaPFatePutsx5
import Derived.Test.YtknibnbepmdapaaFd
namespace Go.Proofs.Ytknibnbepmdapaa
open Go.RowKit Go.Shelf Go.Proofs.YtknibnbepmdapaaW.PrintWords Go.Proofs.YtknibnbepmdapaaW.PrintMore

def secS (a : Int) : ByteArray := strOfNums (List.replicate 256 a)
theorem secS_size (a : Int) : (secS a).size = 256 := by unfold secS; rw [strOfNums_size, List.length_replicate]

theorem rep_set (a : Int) (j d : Nat) : (List.replicate j a ++ List.replicate (d + 1) 0).set j a = List.replicate (j + 1) a ++ List.replicate d 0 := by
  rw [List.set_append_right _ _ (by simp), List.length_replicate, Nat.sub_self, List.replicate_succ, List.set_cons_zero, List.replicate_succ', List.append_assoc]
  rfl

theorem sector_l0 (a : Int) : ∀ (d m j : Nat), j + d = 256 → d < m → PFatePuts.foyerlaw04_sector.l0 m a (List.replicate j a ++ List.replicate d 0) (j : Int) = some (secS a)
  | d, 0, j, _, h => by omega
  | 0, m + 1, j, hj, _ => by
    obtain rfl : j = 256 := by omega
    unfold PFatePuts.foyerlaw04_sector.l0
    rw [if_neg (by rw [List.length_append, List.length_replicate, List.length_replicate]; decide), List.replicate_zero, List.append_nil]
    rfl
  | d + 1, m + 1, j, hj, h => by
    have ih := sector_l0 a d m (j + 1) (by omega) (by omega)
    have hw : wrap64 ((j : Int) + 1) = ((j + 1 : Nat) : Int) := by unfold wrap64; omega
    unfold PFatePuts.foyerlaw04_sector.l0
    rw [if_pos (by rw [List.length_append, List.length_replicate, List.length_replicate]; omega), if_pos (by omega), hw, Int.toNat_natCast, rep_set]
    exact ih

theorem sector_ref (a : Int) (w : World) : Calls Try.prog 21 #[.int .u8 a] w fun e w' => e = .returned (.string (secS a)) ∧ Below w.heap.size w w' :=
  PFatePuts.foyerlaw04_sector.calls 257 a (secS a) w (by
    unfold PFatePuts.foyerlaw04_sector.f
    rw [if_pos (by omega)]
    exact sector_l0 a 256 257 0 (by omega) (by omega))

theorem ofNat_byte (b : UInt8) : UInt8.ofNat ((b.toNat : Int)).toNat = b := by simp

theorem strOfNums_bytesOf (s : ByteArray) : strOfNums (bytesOf s) = s := by
  unfold strOfNums bytesOf
  rw [List.map_map]
  have : ((fun n : Int => UInt8.ofNat n.toNat) ∘ fun b : UInt8 => (b.toNat : Int)) = id := by funext b; simp
  rw [this, List.map_id]

theorem strOfNums_inj (a b : List Int) (h : a = b) : strOfNums a = strOfNums b := by rw [h]

theorem bytesOf_strOfNums (xs : List Int) (h : ∀ x ∈ xs, 0 ≤ x ∧ x < 256) : bytesOf (strOfNums xs) = xs := by
  unfold bytesOf
  rw [strOfNums_data, List.map_map]
  conv => rhs; rw [← List.map_id xs]
  apply List.map_congr_left
  intro x hx
  have := h x hx
  simp only [Function.comp, id]
  rw [UInt8.toNat_ofNat']
  omega

theorem bytesOf_inj {a b : ByteArray} (h : bytesOf a = bytesOf b) : a = b := by rw [← strOfNums_bytesOf a, ← strOfNums_bytesOf b, h]

theorem bytesOf_extract (s : ByteArray) (i j : Nat) : bytesOf (s.extract i j) = ((bytesOf s).take j).drop i := by
  unfold bytesOf
  rw [← List.map_take, ← List.map_drop]
  congr 1
  simp [ByteArray.data_extract, List.drop_take]

theorem bytesOf_append (a b : ByteArray) : bytesOf (a ++ b) = bytesOf a ++ bytesOf b := by
  unfold bytesOf
  rw [← List.map_append]
  congr 1

theorem bytesOf_secS (a : Int) (h : 0 ≤ a ∧ a < 256) : bytesOf (secS a) = List.replicate 256 a := bytesOf_strOfNums _ (fun x hx => by rw [List.mem_replicate] at hx; rw [hx.2]; exact h)

theorem bytesOf_bytes (s : ByteArray) : ∀ x ∈ bytesOf s, 0 ≤ x ∧ x < 256 := by
  intro x hx
  unfold bytesOf at hx
  obtain ⟨b, _, rfl⟩ := List.mem_map.1 hx
  have := b.toNat_lt
  omega

theorem bytesOf_overlay (d old : ByteArray) : bytesOf (overlay d old) = bytesOf d ++ (bytesOf old).drop d.size :=
  bytesOf_strOfNums _ fun x hx => by
    rcases List.mem_append.1 hx with h | h
    · exact bytesOf_bytes _ x h
    · exact bytesOf_bytes _ x (List.mem_of_mem_drop h)

/-- What is laid over, in plain words. -/
theorem overlay_eq (d old : ByteArray) : overlay d old = d ++ old.extract d.size old.size := by
  apply bytesOf_inj
  rw [bytesOf_overlay, bytesOf_append, bytesOf_extract, List.take_of_length_le (by rw [bytesOf_length]; exact Nat.le_refl _)]

theorem overlay_whole (d old : ByteArray) (h : old.size = d.size) : overlay d old = d := by
  apply bytesOf_inj
  rw [bytesOf_overlay, List.drop_of_length_le (by rw [bytesOf_length]; omega), List.append_nil]
end Go.Proofs.Ytknibnbepmdapaa

/-
The statements' own examples (function 16): true.
-/
namespace Go.Proofs.Ytknibnbepmdapaa
open Go.RowKit Go.Shelf Go.Proofs.YtknibnbepmdapaaW.PrintWords Go.Proofs.Ytknibnbepmdapaa.PFate
attribute [local go_sem] Oper.semAt_some

theorem works_read : fateRead [5, 1, 0, 128] 3 = ([true, false, true], 2, 128) := by kernel_rfl
theorem works_put : fatePut [true, false, true] 2 128 = ([5, 1, 0, 128], 0) := by kernel_rfl

theorem string_at {w : World} {A : Option Addr} {n : Nat} {l : List ByteArray} (h : Kd.C Kd.string w A n l) {k : Nat} (hk : k < n) :
    ∃ ad, A = some ad ∧ ad.block < w.heap.size ∧ w.cell? (ad.add k) = some (.string (l.getD k ByteArray.empty)) := by
  obtain ⟨ad, c, hA, hl, hK, hcell⟩ := Kd.C_get h ByteArray.empty (k : Int) (by omega) (by omega)
  have hcv : c = [.string (l.getD k ByteArray.empty)] := by have := hK; rw [Int.toNat_natCast] at this; exact this
  subst hcv
  have h0 := hcell 0 _ rfl
  rw [Int.toNat_natCast, show k * Kd.string.sz + 0 = k from by show k * 1 + 0 = k; omega] at h0
  exact ⟨ad, hA, by have := World.block_lt_of_cell? _ _ h0; rwa [add_block] at this, h0⟩

theorem k43_two {w : World} {g : Nat} {a b : S43} (h : Blk w g 43 #[.int .i64 a.f0, .string a.f1, .int .i64 b.f0, .string b.f1]) : Kd.C k43 w (some ⟨g, 0, none⟩) 2 [a, b] := by
  refine ⟨rfl, by decide, fun _ => ⟨_, rfl, fun j p hj => ?_⟩⟩
  match j, hj with
  | 0, hj => 
    cases hj
    refine ⟨_, rfl, k43_mk w a, fun i u hu => ?_⟩
    rw [add_plain]
    match i, hu with
    | 0, hu => exact (h.cell 0).trans hu
    | 1, hu => exact (h.cell 1).trans hu
    | i + 2, hu => simp at hu
  | 1, hj => 
    cases hj
    refine ⟨_, rfl, k43_mk w b, fun i u hu => ?_⟩
    rw [add_plain]
    match i, hu with
    | 0, hu => exact (h.cell 2).trans hu
    | 1, hu => exact (h.cell 3).trans hu
    | i + 2, hu => simp at hu
  | j + 2, hj => simp at hj

theorem fateAfter_two (was : List ByteArray) (l : List S43) (t a : Int) : fateAfter was l [true, true] t a = afterStep l t a (afterStep l t a was 0) 1 := rfl

theorem works_after : fateAfter [secS 97] [⟨0, secS 98⟩, ⟨0, secS 99⟩] [true, true] 1 100 = [(secS 99).extract 0 100 ++ (secS 98).extract 0 156] := by
  rw [fateAfter_two]
  have e0 : afterStep [⟨0, secS 98⟩, ⟨0, secS 99⟩] 1 100 [secS 97] 0 = [secS 98] := by
    unfold afterStep
    rw [if_pos ⟨by decide, by decide, by decide, secS_size 98⟩]
    show [layAt 1 100 0 (secS 98) (secS 97)] = _
    unfold layAt
    rw [if_neg (by decide), overlay_whole _ _ (by rw [secS_size, secS_size])]
  rw [e0]
  unfold afterStep
  rw [if_pos ⟨by decide, by decide, by decide, secS_size 99⟩]
  show [layAt 1 100 1 (secS 99) (secS 98)] = _
  unfold layAt
  rw [if_pos rfl, show (min (max (100 : Int) 0) 256).toNat = 100 from by decide, overlay_eq, extract_size, secS_size, secS_size, show min 100 256 = 100 from by decide]
  have e1 : (secS 98).extract 100 256 = (secS 98).extract 0 156 := by
    apply bytesOf_inj
    rw [bytesOf_extract, bytesOf_extract, bytesOf_secS _ (by decide)]
    generalize (98 : Int) = x
    simp only [List.take_replicate, List.drop_replicate]
    congr 1
  rw [e1]

set_option maxRecDepth 100000 in
set_option maxHeartbeats 1000000 in
theorem works_in (w : World) : CallsIn Fence.wide 9 Try.prog 16 #[] w fun e w' => e = .returned (.bool true) ∧ Below w.heap.size w w' := by
  have hF : ∀ f, Fence.wide.fn f := fun _ => trivial
  refine callsIn_of_wp Try.func16 rfl (hF _) ?_ rfl
  simp only [Try.ntmps16, List.size_toArray, List.length_nil, Nat.reduceSub, Array.replicate_succ, Array.replicate_zero, List.push_toArray, List.append_toArray, List.nil_append, List.cons_append]
  gi_wp2_with fail
  have c1 : Kd.C (Kd.int .u8) (w.alloc (.cells #[.int .u8 5, .int .u8 1, .int .u8 0, .int .u8 128] 5)) (some ⟨w.heap.size, 0, none⟩) 4 [5, 1, 0, 128] := Blk.reads (enc := Value.int .u8) (h1 := fun _ => rfl) (Blk.new w 5 _) (by decide)
  refine (callsIn_wide.2 ((callsIn_wide (n := 9)).1 (read_in _ 4 [5, 1, 0, 128] 3 _ c1 (by decide) (by decide)))).mono ?_
  rintro e w1 ⟨v, rfl, hR, hb1⟩
  rw [works_read] at hR ⊢
  dsimp only at hR ⊢
  obtain ⟨Av, cv, hv, hlc, hCv⟩ := Kd.R_reads hR
  have hv : v = .slice Av 3 cv := hv
  have hCv : Kd.C Kd.bool w1 Av 3 [true, false, true] := hCv
  subst hv
  have hbw1 : Below w.heap.size w w1 := below_then (below_alloc (Below.refl _ _) _) (by simp) hb1
  clear c1 hR hb1 hlc
  gi_wp2_with fail
  have hp := put_calls Av cv [true, false, true] 2 128 (w1.alloc (.cells #[.slice Av 3 cv, .int .i64 2, .int .i64 128] 24)) (Kd.C_alloc hCv _)
  rw [works_put] at hp
  refine (callsIn_wide.2 hp).mono ?_
  rintro e w2 ⟨v2, rfl, hR2, hb2⟩
  have b1 : Blk w2 w1.heap.size 24 #[.slice Av 3 cv, .int .i64 2, .int .i64 128] := (Blk.new w1 24 _).below hb2
  have hbw2 : Below w.heap.size w w2 := below_then (below_alloc hbw1 _) (by have := hbw1.size; simp; omega) hb2
  have hCv : Kd.C Kd.bool w2 Av 3 [true, false, true] := Kd.C_below (Kd.C_alloc hCv _) hb2
  obtain ⟨A2, k2, hv, hlc, hC2⟩ := Kd.R_reads hR2
  have hv : v2 = .slice A2 4 k2 := hv
  have hC2 : Kd.C (Kd.int .u8) w2 A2 4 [5, 1, 0, 128] := hC2
  subst hv
  clear hR2 hb2 hlc hp
  gi_wp2_with fail
  refine (callsIn_wide.2 (sector_ref 97 _)).mono ?_
  rintro e w3 ⟨rfl, hb3⟩
  gi_wp2_with fail
  refine (callsIn_wide.2 (sector_ref 98 _)).mono ?_
  rintro e w4 ⟨rfl, hb4⟩
  gi_wp2_with fail
  refine (callsIn_wide.2 (sector_ref 99 _)).mono ?_
  rintro e w5 ⟨rfl, hb5⟩
  gi_wp2_with fail
  obtain ⟨W5, hW5⟩ : ∃ W5, (w5.alloc (.cells #[.int .i64 0, .string (secS 98), .int .i64 0, .string (secS 99)] 43)).alloc (.cells #[.bool true, .bool true] 4) = W5 := ⟨_, rfl⟩
  rw [hW5]
  have d1 : Blk W5 w3.heap.size 9 #[.string (secS 97)] := by rw [← hW5]; exact ((((Blk.new w3 9 #[.string (secS 97)]).below hb4).below hb5).alloc _).alloc _
  have d2 : Blk W5 w5.heap.size 43 #[.int .i64 0, .string (secS 98), .int .i64 0, .string (secS 99)] := by rw [← hW5]; exact (Blk.new w5 43 _).alloc _
  have d3 : Blk W5 (w5.heap.size + 1) 4 #[.bool true, .bool true] := by rw [← hW5]; have := Blk.new (w5.alloc (.cells #[.int .i64 0, .string (secS 98), .int .i64 0, .string (secS 99)] 43)) 4 #[.bool true, .bool true]; simpa using this
  have hb25 : Below w2.heap.size w2 W5 := by
    rw [← hW5]
    exact below_alloc (below_alloc (below_then (below_then (below_alloc hb3 _) (by have := hb3.size; simp; omega) hb4) (by have := hb3.size; have := hb4.size; simp at this; omega) hb5) _) _
  clear hW5 hb3 hb4 hb5
  have hC1 : Kd.C Kd.string W5 (some ⟨w3.heap.size, 0, none⟩) 1 [secS 97] := Blk.reads (enc := Value.string) (h1 := fun _ => rfl) (xs := [secS 97]) d1 (by decide)
  have hCw : Kd.C k43 W5 (some ⟨w5.heap.size, 0, none⟩) 2 [⟨0, secS 98⟩, ⟨0, secS 99⟩] := k43_two d2
  have hCb : Kd.C Kd.bool W5 (some ⟨w5.heap.size + 1, 0, none⟩) 2 [true, true] := Blk.reads (enc := Value.bool) (h1 := fun _ => rfl) (xs := [true, true]) d3 (by decide)
  have ha := after_calls _ 1 [secS 97] _ 2 [⟨0, secS 98⟩, ⟨0, secS 99⟩] _ 2 [true, true] 1 100 W5 hC1 hCw hCb (fun s hs => by rw [List.mem_singleton] at hs; rw [hs]; exact secS_size 97) (by decide)
  rw [works_after] at ha
  refine (callsIn_wide.2 ha).mono ?_
  rintro e w6 ⟨v3, rfl, hR3, hb6⟩
  obtain ⟨X, hX⟩ : ∃ X, (secS 99).extract 0 100 ++ (secS 98).extract 0 156 = X := ⟨_, rfl⟩
  rw [hX] at hR3
  obtain ⟨A3, k3, hv, hlc, hC3⟩ := Kd.R_reads hR3
  have hv : v3 = .slice A3 1 k3 := hv
  have hC3 : Kd.C Kd.string w6 A3 1 [X] := hC3
  subst hv
  have hb26 := below_then hb25 hb25.size hb6
  have b1 := b1.below hb26
  have hCv := Kd.C_below hCv hb26
  have hC2 := Kd.C_below hC2 hb26
  have hbw6 := below_then hbw2 hbw2.size hb26
  clear ha hR3 hb6 hb26 hb25 hC1 hCw hCb d1 d2 d3 hbw2 hbw1 hlc
  obtain ⟨av, rfl, hva, hv0⟩ := bool_at hCv (k := 0) (by decide)
  obtain ⟨av1, ha1, _, hv1⟩ := bool_at hCv (k := 1) (by decide)
  obtain ⟨av2, ha2, _, hv2⟩ := bool_at hCv (k := 2) (by decide)
  cases ha1
  cases ha2
  obtain ⟨a3, rfl, ha3, hx3⟩ := string_at hC3 (k := 0) (by decide)
  have h99 := secS_size 99
  have h98 := secS_size 98
  replace hX := Lib.hid hX
  gi_wp2_with fail
  refine wpIn_region_phases 59 [.pointer (some ⟨w1.heap.size, 0, none⟩), .slice (some av) 3 cv, .int .i64 3, .bool true, .bool true, .pointer (some ⟨w1.heap.size, 0, none⟩), .slice (some av) 3 cv, .pointer (some av), .bool true, .bool true, .bool true, .pointer (some ⟨w1.heap.size, 0, none⟩), .slice (some av) 3 cv, .pointer (some ⟨av.block, av.off + 1, none⟩), .bool false, .bool true, .bool true, .bool true, .pointer (some ⟨w1.heap.size, 0, none⟩), .slice (some av) 3 cv, .pointer (some ⟨av.block, av.off + 2, none⟩), .bool true, .bool true, .bool true, .pointer (some ⟨w1.heap.size, 1, none⟩), .int .i64 2, .bool true, .bool true, .bool true, .pointer (some ⟨w1.heap.size, 2, none⟩), .int .i64 128, .bool true, .bool true, .bool true, .int .i64 0, .bool true, .bool true, .bool true, .slice A2 4 k2, .string ⟨#[5, 1, 0, 128]⟩, .bool true, .bool true, .bool true, .slice (some a3) 1 k3, .int .i64 1, .bool true, .bool true, .bool true, .slice (some a3) 1 k3, .pointer (some a3), .string X, .string (secS 99), .string ((secS 99).extract 0 100), .string (secS 98), .string ((secS 98).extract 0 156), .string X, .bool true, .bool true, .bool true]
    (fun W' => Below w6.heap.size w6 W') (by kernel_rfl) (by kernel_rfl) rfl (Below.refl _ _).drew ?step ?tail
  case tail =>
    intro W' hb
    simp only [List.take_succ_cons, List.take_zero, List.drop_succ_cons, List.drop_nil, fillT, List.setIfInBounds_toArray, List.set_cons_zero, List.set_cons_succ]
    have hb := Lib.hid (below_then hbw6 hbw6.size hb)
    gi_wp2
    exact ⟨rfl, _, results_tmp rfl _ _ _, rfl, hb.out⟩
  case step =>
    intro W' hb
    have f0 : W'.cell? ⟨w1.heap.size, 0, none⟩ = some (.slice (some av) 3 cv) := (b1.below hb).cell 0
    have f1 : W'.cell? ⟨w1.heap.size, 1, none⟩ = some (.int .i64 2) := (b1.below hb).cell 1
    have f2 : W'.cell? ⟨w1.heap.size, 2, none⟩ = some (.int .i64 128) := (b1.below hb).cell 2
    have f3 : W'.cell? av = some (.bool true) := by have := (hb.cell (p := av.add 0) (by rw [add_block]; exact hva)).trans hv0; simpa [Addr.add] using this
    have f4 : W'.cell? ⟨av.block, av.off + 1, none⟩ = some (.bool false) := by have := (hb.cell (p := av.add 1) (by rw [add_block]; exact hva)).trans hv1; simpa [Addr.add] using this
    have f5 : W'.cell? ⟨av.block, av.off + 2, none⟩ = some (.bool true) := by have := (hb.cell (p := av.add 2) (by rw [add_block]; exact hva)).trans hv2; simpa [Addr.add] using this
    have f6 : W'.cell? a3 = some (.string X) := by have := (hb.cell (p := a3.add 0) (by rw [add_block]; exact ha3)).trans hx3; simpa [Addr.add] using this
    have f7 : (convert 25 9 (.slice A2 4 k2)).run Try.prog W' = .ok (.string ⟨#[5, 1, 0, 128]⟩) W' := Kd.C_string Try.underlying25 Try.underlying5 Try.underlying9 (Kd.C_below hC2 hb)
    have hb := Lib.hid hb
    simp only [List.take_succ_cons, List.take_zero, AllIn, fillT, List.setIfInBounds_toArray, List.set_cons_zero, List.set_cons_succ]
    refine ⟨?_, ?_, ?_, ?_, ?_, ?_, ?_, ?_, ?_, ?_, ?_, ?_, ?_, ?_, ?_, ?_, ?_, ?_, ?_, ?_, ?_, ?_, ?_, ?_, ?_, ?_, ?_, ?_, ?_, ?_, ?_, ?_, ?_, ?_, ?_, ?_, ?_, ?_, ?_, ?_, ?_, ?_, ?_, ?_, ?_, ?_, ?_, ?_, ?_, ?_, ?_, ?_, ?_, ?_, ?_, ?_, ?_, ?_, ?_, trivial⟩
    all_goals
      gi_wp2_with (gi_at_call 21; refine (callsIn_wide.2 (sector_ref _ _)).mono ?_; rintro e w' ⟨rfl, hbm⟩)
      first | exact ⟨rfl, hb.out⟩ | exact ⟨rfl, below_step hb.out hbm⟩ | (refine ⟨?_, hb.out⟩; congr 1; congr 1; simp only [List.cons.injEq, true_and, and_true, Value.string.injEq]; exact hX.out)

/-- **The statements' own examples hold.** -/
theorem works_calls (w : World) : Calls Try.prog 16 #[] w fun e w' => e = .returned (.bool true) ∧ Below w.heap.size w w' := (callsIn_wide (n := 9)).1 (works_in w)
end Go.Proofs.Ytknibnbepmdapaa
