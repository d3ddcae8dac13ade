/-
DiskKnown: the walk of its body.
-/
import Derived.Test.YtknibnbepmdapaaDj
namespace Go.Proofs.Ytknibnbepmdapaa
open Go.RowKit Go.Shelf Go.Proofs.YtknibnbepmdapaaW.PrintWords Go.Proofs.Ytknibnbepmdapaa.PFate Go.ChangeMaps Go.Maps
attribute [local go_sem] Oper.semAt_some

set_option maxRecDepth 100000 in
set_option maxHeartbeats 2000000 in
theorem diskKnown_in (w : World) : CallsIn Fence.wide 9 Try.prog 12 #[] w fun e w' => e = .returned (.bool true) ∧ Below w.heap.size w w' := by
  have hF : ∀ f, Fence.wide.fn f := fun _ => trivial
  refine callsIn_of_wp Try.func12 rfl (hF _) ?_ rfl
  simp only [Try.ntmps12, List.size_toArray, List.length_nil, Nat.reduceSub, Array.replicate_succ, Array.replicate_zero, List.push_toArray, List.append_toArray, List.nil_append, List.cons_append]
  gi_wp2_with fail
  refine (callsIn_wide.2 (arm_nil 1 w)).mono ?_
  rintro e W' ⟨rfl, rfl⟩
  gi_wp2_with fail
  refine (callsIn_wide.2 (boot_nil _ _)).mono ?_
  rintro e W' ⟨rfl, rfl⟩
  gi_wp2_with fail
  refine (callsIn_wide.2 (read_nil 0 _)).mono ?_
  rintro e v0 ⟨rfl, hv0⟩
  gi_wp2_with fail
  refine (callsIn_wide.2 (own_new 1024 v0 (by decide))).mono ?_
  rintro e v1 ⟨d, rfl, hO0⟩
  obtain ⟨F, hD, hF, hb⟩ := hO0
  have hO : Own W' v1 d (DS.new 1024) := ⟨F, hD, fun k hk => by have := hF k hk; have := hv0.size; omega, below_then hv0 hv0.size hb⟩
  clear hD hF hb hv0
  have hl : (List.replicate 1024 (secS 0)).length = 1024 := List.length_replicate
  have ha := blank_all 1024
  unfold DS.new at hO
  generalize List.replicate 1024 (secS 0) = H at *
  have wf1 : (Lit.int .i64 (-1)).wf = true := by decide
  have wf1024 : (Lit.int .i64 1024).wf = true := by decide
  have wf5 : (Lit.int .i64 5).wf = true := by decide
  have hin : ∀ (o : Bool) (f k : Int), -1 ≤ f ∧ f ≤ 1000000 → 0 ≤ k ∧ k ≤ 1000000 → (DS.mk H [] o f k).In := fun o f k hf hk => mkIn hf hk (by decide) (by omega) ha (pend_nil _)
  have hsa : (sec5 97).size = 256 := sec5_size 97 (by decide)
  have q1 : (DS.mk H [] false 0 0).read (-1) = (⟨#[]⟩, 2, ⟨H, [], false, 0, 0⟩) := read_not (by rw [hl]; rfl)
  have q2 : (DS.mk H [] false 0 0).write 1024 (sec5 97) = (2, ⟨H, [], false, 0, 0⟩) := write_not (by rw [hl]; rfl)
  have q3 : (DS.mk H [] false 0 0).barrier = (10, ⟨H, [], true, -1, 0⟩) := barrier_out
  have q4 : (DS.mk H [] true (-1) 0).write 5 ⟨#[120]⟩ = (10, ⟨H, [], true, -1, 0⟩) := write_off
  have q5 : (DS.mk H [] true 2 0).boot [255, 255] = ⟨H, [], false, -1, 0⟩ := by
    unfold DS.boot
    dsimp only [List.length_nil]
    rw [show fateRead [255, 255] ((0 : Nat) : Int) = ([], -1, 0) by kernel_rfl]
    rfl
  have q6 : ∀ k : Int, (DS.mk H [] false (-1) k).barrier = (0, ⟨H, [], false, -1, k + 1⟩) := fun k => barrier_go (by decide)
  replace hl := Lib.hid hl
  replace hsa := Lib.hid hsa
  have hQ := Lib.hid (And.intro q1 (And.intro q2 (And.intro q3 (And.intro q4 (And.intro q5 q6)))))
  clear q1 q2 q3 q4 q5 q6
  gi_wp2_with fail
  refine (callsIn_wide.2 (new_none 63 _ (.inl (by decide)))).mono ?_
  rintro e W' ⟨rfl, rfl⟩
  gi_wp2_with fail
  refine (callsIn_wide.2 (new_none 1025 _ (.inr (by decide)))).mono ?_
  rintro e W' ⟨rfl, rfl⟩
  gi_wp2_with fail
  refine (callsIn_wide.2 (new_none (-1) _ (.inl (by decide)))).mono ?_
  rintro e W' ⟨rfl, rfl⟩
  gi_wp2_with fail
  refine (callsIn_wide.2 (own_arm hO 0 (s' := ⟨H, [], false, 0, 0⟩) rfl)).mono ?_
  rintro e w6 ⟨rfl, hN⟩
  clear hO
  have hO := hN
  clear hN
  gi_wp2_with fail
  refine (callsIn_wide.2 (own_read hO (hin false 0 0 (by decide) (by decide)) wf1 hQ.out.1)).mono ?_
  rintro e w7 ⟨rfl, hN⟩
  clear hO
  have hO := hN
  clear hN
  gi_wp2_with fail
  refine (callsIn_wide.2 (sector5_calls 97 (by decide) _)).mono ?_
  rintro e w8 ⟨rfl, hN⟩
  replace hO := hO.below hN
  clear hN
  gi_wp2_with fail
  refine (callsIn_wide.2 (own_write hO (hin false 0 0 (by decide) (by decide)) wf1024 (by rw [hsa.out]; decide) hQ.out.2.1)).mono ?_
  rintro e w9 ⟨rfl, hN⟩
  clear hO
  have hO := hN
  clear hN
  gi_wp2_with fail
  refine (callsIn_wide.2 (own_ops hO)).mono ?_
  rintro e W' ⟨rfl, rfl⟩
  gi_wp2_with fail
  refine (callsIn_wide.2 (own_barrier hO (hin false 0 0 (by decide) (by decide)) hQ.out.2.2.1)).mono ?_
  rintro e w11 ⟨rfl, hN⟩
  clear hO
  have hO := hN
  clear hN
  gi_wp2_with fail
  refine (callsIn_wide.2 (own_write hO (hin true (-1) 0 (by decide) (by decide)) wf5 (by decide) hQ.out.2.2.2.1)).mono ?_
  rintro e w12 ⟨rfl, hN⟩
  clear hO
  have hO := hN
  clear hN
  gi_wp2_with fail
  refine (callsIn_wide.2 (own_off hO)).mono ?_
  rintro e W' ⟨rfl, rfl⟩
  gi_wp2_with fail
  refine (callsIn_wide.2 (own_arm hO 2 (s' := ⟨H, [], true, 2, 0⟩) rfl)).mono ?_
  rintro e w14 ⟨rfl, hN⟩
  clear hO
  have hO := hN
  clear hN
  gi_wp2_with fail
  obtain ⟨X, hX⟩ : ∃ X, w14.alloc (.cells #[.int .u8 255, .int .u8 255] 5) = X := ⟨_, rfl⟩
  have hcX : Kd.C (Kd.int .u8) X (some ⟨w14.heap.size, 0, none⟩) 2 [255, 255] := by rw [← hX]; exact Blk.reads (enc := Value.int .u8) (h1 := fun _ => rfl) (Blk.new w14 5 _) (by decide)
  have hOX := hO.below (show Below w14.heap.size w14 X by rw [← hX]; exact below_alloc (Below.refl _ _) _)
  clear hO
  rw [hX]
  clear hX
  refine (callsIn_wide.2 (own_boot (c0 := 2) hOX (hin true 2 0 (by decide) (by decide)) hcX (by decide) (by unfold Bytes; decide) hQ.out.2.2.2.2.1)).mono ?_
  rintro e wb ⟨rfl, hO⟩
  clear hcX hOX
  gi_wp2_with fail
  refine (callsIn_wide.2 (own_barrier hO (hin false (-1) 0 (by decide) (by decide)) (hQ.out.2.2.2.2.2 0))).mono ?_
  rintro e w15 ⟨rfl, hN⟩
  clear hO
  have hO := hN
  clear hN
  gi_wp2_with fail
  refine (callsIn_wide.2 (own_barrier hO (hin false (-1) 1 (by decide) (by decide)) (hQ.out.2.2.2.2.2 1))).mono ?_
  rintro e w16 ⟨rfl, hN⟩
  clear hO
  have hO := hN
  clear hN
  gi_wp2_with fail
  refine (callsIn_wide.2 (own_arm hO 1 (s' := ⟨H, [], false, 1, 2⟩) rfl)).mono ?_
  rintro e w17 ⟨rfl, hN⟩
  clear hO
  have hO := hN
  clear hN
  gi_wp2_with fail
  refine (callsIn_wide.2 (own_arm hO (-3) (s' := ⟨H, [], false, -1, 2⟩) rfl)).mono ?_
  rintro e w18 ⟨rfl, hN⟩
  clear hO
  have hO := hN
  clear hN
  gi_wp2_with fail
  refine (callsIn_wide.2 (own_barrier hO (hin false (-1) 2 (by decide) (by decide)) (hQ.out.2.2.2.2.2 2))).mono ?_
  rintro e w19 ⟨rfl, hN⟩
  clear hO
  have hO := hN
  clear hN
  gi_wp2_with fail
  refine (callsIn_wide.2 (own_barrier hO (hin false (-1) 3 (by decide) (by decide)) (hQ.out.2.2.2.2.2 3))).mono ?_
  rintro e w20 ⟨rfl, hN⟩
  clear hO
  have hO := hN
  clear hN
  gi_wp2_with fail
  refine (callsIn_wide.2 (works5_calls _)).mono ?_
  rintro e w21 ⟨rfl, hN⟩
  replace hO := hO.below hN
  clear hN
  gi_wp2_with fail
  refine (callsIn_wide.2 (write_nil 0 ⟨#[]⟩ _)).mono ?_
  rintro e w22 ⟨rfl, hN⟩
  replace hO := hO.below hN
  clear hN
  gi_wp2_with fail
  refine (callsIn_wide.2 (barrier_nil _)).mono ?_
  rintro e W' ⟨rfl, rfl⟩
  gi_wp2_with fail
  refine (callsIn_wide.2 (off_nil _)).mono ?_
  rintro e W' ⟨rfl, rfl⟩
  gi_wp2_with fail
  refine (callsIn_wide.2 (ops_nil _)).mono ?_
  rintro e W' ⟨rfl, rfl⟩
  gi_wp2_with fail
  refine (callsIn_wide.2 (pending_nil _)).mono ?_
  rintro e W' ⟨rfl, rfl⟩
  gi_wp2_with fail
  refine (callsIn_wide.2 (sectors_nil _)).mono ?_
  rintro e W' ⟨rfl, rfl⟩
  gi_wp2_with fail
  refine (callsIn_wide.2 (own_ops hO)).mono ?_
  rintro e W' ⟨rfl, rfl⟩
  gi_wp2_with fail
  have hsec := own_sectors hO
  dsimp only at hsec
  rw [hl.out] at hsec
  refine (callsIn_wide.2 hsec).mono ?_
  rintro e W' ⟨rfl, rfl⟩
  clear hsec
  have hb := hO.base
  clear hO
  gi_wp2
  exact ⟨rfl, _, results_tmp rfl _ _ _, rfl, hb⟩
end Go.Proofs.Ytknibnbepmdapaa
