/-
DiskLasts: the walk of its body.
-/
import Derived.Test.YtknibnbepmdapaaQd
namespace Go.Proofs.Ytknibnbepmdapaa
open Go.RowKit Go.Shelf Go.Proofs.YtknibnbepmdapaaW.PrintWords Go.Proofs.Ytknibnbepmdapaa.PFate Go.ChangeMaps Go.Maps
attribute [local go_sem] Oper.semAt_some

set_option maxRecDepth 100000 in
set_option maxHeartbeats 8000000 in
theorem lasts_in (A : Option Addr) (c : Nat) (L : List P57) (fu : Int) (Ac : Option Addr) (cc : Nat) (ch : List Int) (w : World) (hA : PutsAt w A L) (hL : ∀ x ∈ L, x.In) (hmax : L.length ≤ 9223372036854775807) (hfu : 0 ≤ fu ∧ fu < 256)
    (hCc : Kd.C (Kd.int .u8) w Ac ch.length ch) (hlc : ch.length ≤ cc) (hby : Bytes ch) :
    CallsIn Fence.wide 9 Try.prog 10 #[.slice A L.length c, .int .u8 fu, .slice Ac ch.length cc] w fun e w' => e = .returned (.bool true) ∧ Below w.heap.size w w' := by
  have hF : ∀ f, Fence.wide.fn f := fun _ => trivial
  refine callsIn_of_wp Try.func10 rfl (hF _) ?_ rfl
  simp only [Try.ntmps10, List.size_toArray, List.length_cons, List.length_nil, Nat.reduceAdd, Nat.reduceSub, Array.replicate_succ, Array.replicate_zero, List.push_toArray, List.append_toArray, List.nil_append, List.cons_append]
  gi_wp2_with fail
  refine (callsIn_wide.2 (works5_calls _)).mono ?_
  rintro e w1 ⟨rfl, hb1⟩
  gi_wp2_with fail
  refine (callsIn_wide.2 (new_calls 64 w1 (by omega))).mono ?_
  rintro e w2 ⟨d, Fd, rfl, hD, hFd, hb2⟩
  gi_wp2_with fail
  have mk2 : ∀ w, (Instr.makeSlice 25 (.int .i64 256) (.int .i64 256)).run Try.prog w = .ok (.slice (some ⟨w.heap.size, 0, none⟩) 256 256) (w.alloc (.cells noughts 5)) := fun w => make_bytes 256 (by omega) w
  gi_loopw [9] (fun u wr => ∃ i : Nat, i ≤ 8 ∧ u = .int .i64 (i : Int) ∧ Both i w wr d w2.heap.size (DS.new 64) (fun _ => [secS 0]))
    (fun u _ => 8 - (intOf u).toNat)
  case atStart =>
    have hs1 := hb1.size
    have hs2 := hb2.size
    refine ⟨0, Nat.zero_le _, rfl, Fd, fun k => k = w2.heap.size, hD.below (below_alloc (Below.refl _ _) _), ⟨_, fun _ => 0, rfl, Blk.new w2 54 _, fun k hk => absurd hk (by omega), fun i k hi => absurd hi (by omega), rfl, fun k hk => absurd hk (by omega), fun k hk => by subst hk; simp⟩, fun k hk e => ?_, fun k hk => ?_, fun k hk => ?_, below_alloc (below_then hb1 hb1.size hb2) _⟩
    · have := hD.lt k hk; omega
    · have := hFd k hk; omega
    · omega
  case round =>
    obtain ⟨i, hi, rfl, hB⟩ := hrel
    clear hD
    generalize w2.heap.size = g8 at *
    rcases Nat.lt_or_ge i 8 with hlt | hge
    · have hlt' : (i : Int) < 8 := by omega
      have hi0 : 0 ≤ (i : Int) := by omega
      have hcv : (convert 25 9 (.slice (some ⟨wr.heap.size, 0, none⟩) 256 256)).run Try.prog (wr.alloc (.cells noughts 5)) = .ok (.string (secS 0)) (wr.alloc (.cells noughts 5)) := by
        have hb := Blk.new wr 5 noughts
        have hb : Blk (wr.alloc (.cells noughts 5)) wr.heap.size 5 (encV (Value.int .u8) (List.replicate 256 0)) := hb
        exact Kd.C_string Try.underlying25 Try.underlying5 Try.underlying9 (Blk.reads (enc := Value.int .u8) (h1 := fun _ => rfl) hb (by rw [List.length_replicate]; decide))
      obtain ⟨⟨z0, g0⟩, f0⟩ := both_cell8 (hB.below (below_alloc (below_alloc (Below.refl _ _) (.cells noughts 5)) (.cells #[.string (secS 0)] 9))) hlt
      gi_wp2
      go_roundw
      case rel => exact ⟨i + 1, by omega, by go_num, (both_init hB hlt (secS 0) (.cells noughts 5) 1 rfl).congr (fun j _ => by split <;> rfl)⟩
      case measure => simp [intOf]; omega
    · obtain rfl : i = 8 := by omega
      clear hb1 hb2 hFd mk2 hi hge
      gi_wp2_with fail
      refine (callsIn_wide.2 (both_arm hB (fu % 64))).mono ?_
      rintro e w3 ⟨rfl, hB0⟩
      have hG0 := (Good.new 64).arm (k := fu % 64) (by omega)
      obtain ⟨s0, hs0⟩ : ∃ s0 : DS, { DS.new 64 with fuse := max (-1) (fu % 64) } = s0 := ⟨_, rfl⟩
      have hm0 : ∀ k, k < 8 → (fun _ => [secS 0]) k = mayS s0 k := by
        intro k hk
        rw [← hs0]
        show [secS 0] = [(List.replicate 64 (secS 0)).getD k ByteArray.empty]
        rw [List.getD_eq_getElem?_getD, List.getElem?_replicate, if_pos (by omega)]
        rfl
      rw [hs0] at hB0 hG0
      replace hB0 := hB0.congr hm0
      clear hs0 hm0 hB
      gi_wp2_with fail
      gi_loopw [10] (fun u wr => ∃ (i : Nat) (s : DS), i ≤ 30 ∧ i ≤ L.length ∧ u = .int .i64 (i : Int) ∧ Both 8 w wr d g8 s (mayS s) ∧ Good s 64 (3 * i + 1))
        (fun u _ => 30 - (intOf u).toNat)
      case atStart => exact ⟨0, s0, by omega, Nat.zero_le _, rfl, hB0, hG0⟩
      case round =>
        clear hB0 hG0
        obtain ⟨i, s, hi30, hiL, rfl, hB, hG⟩ := hrel
        rcases (by omega : (i < L.length ∧ i < 30) ∨ (i < L.length ∧ i = 30) ∨ i = L.length) with ⟨hil, hi3⟩ | ⟨hil, rfl⟩ | hil
        · have hil' : (i : Int) < L.length := by omega
          have hi3' : (i : Int) < 30 := by omega
          have hi0 : 0 ≤ (i : Int) := by omega
          obtain ⟨ad, hAd, a0, a1, a2⟩ := hA i L[i] (List.getElem?_eq_getElem hil)
          obtain ⟨⟨hx0, hx1⟩, hx2, hx3⟩ := hL _ (List.getElem_mem hil)
          generalize L[i] = x at *
          subst hAd
          have hbW := hB.base
          have hadl := World.block_lt_of_cell? _ _ a0
          have b0 := (hbW.cell (p := ad.add (i * 3)) hadl).trans a0
          have b1 := (hbW.cell (p := ⟨(ad.add (i * 3)).block, (ad.add (i * 3)).off + 1, none⟩) hadl).trans a1
          gi_wp2_with fail
          refine (callsIn_wide.2 (sector5_calls (x.letter % 240) (by omega) _)).mono ?_
          rintro e y1 ⟨rfl, hb1⟩
          have hB1 := hB.below hb1
          have hs5 := sec5_size (x.letter % 240) (by omega)
          generalize sec5 (x.letter % 240) = str at *
          have hkk : 0 ≤ x.sec % 8 ∧ x.sec % 8 < 8 := by omega
          generalize x.sec % 8 = kk at *
          obtain ⟨k, rfl⟩ := Int.eq_ofNat_of_zero_le hkk.1
          have hk8 : k < 8 := by omega
          have hk8' : (k : Int) < 8 := hkk.2
          have hk0 : 0 ≤ (k : Int) := hkk.1
          clear hkk hB b0 b1 hb1
          gi_wp2_with fail
          refine (callsIn_wide.2 (both_write hB1 hG (by omega) (wf_nat (by omega)) (by omega))).mono ?_
          rintro e y2 ⟨rfl, hB2⟩
          have hG2 := hG.write (k : Int) str
          obtain ⟨er, s1, hq, hh, hcase⟩ := write_may s (k : Int) str
          rw [hq] at hB2 hG2 ⊢
          dsimp only at hB2 hG2 ⊢
          clear hq hB1
          rcases hcase with ⟨her, hp⟩ | ⟨rfl, hp⟩
          · have hne : ¬ er = 0 := by omega
            rw [← mayS_eq hh hp] at hB2
            clear hh hp hG her
            rcases (by omega : ch.length ≤ 100 ∨ 100 < ch.length) with hch | hch
            ·
              have hle : (ch.length : Int) ≤ 100 := by omega
              gi_wp2_with fail
              have qb := both_boot (c0 := cc) hB2 hG2 (by omega) (Kd.C_below hCc hB2.base) hlc hby
              refine (callsIn_wide.2 qb).mono ?_
              clear qb
              rintro e z1 ⟨rfl, hB1⟩
              have hG1 := hG2.boot ch
              have hlaw : ∀ k : Nat, k < 8 → (rdOf ByteArray.empty (s1.boot ch).held (k : Int) ∈ mayS s1 k ∨ (tornSector s1.pend (fateRead ch s1.pend.length).2.1 = (k : Int) ∧ Mixed (rdOf ByteArray.empty (s1.boot ch).held (k : Int)) (mayS s1 k))) := fun k hk => boot_may s1 ch hby hG2.all (fun x hx => (hG2.pok x hx).2) (by have := hG2.pl; omega) k (by rw [hG2.len]; omega)
              have hX256 : ∀ k : Nat, k < 8 → ∀ x ∈ mayS s1 k, x.size = 256 := fun k hk => mayS_256 hG2 (by omega)
              have hXl : ∀ k : Nat, (mayS s1 k).length ≤ 1000 := fun k => by have := mayS_length s1 k; have := hG2.pl; omega
              have hoff : (s1.boot ch).off = false := rfl
              have hfu1 : (s1.boot ch).fuse = -1 := rfl
              have hpe : (s1.boot ch).pend = [] := rfl
              have hlen : (s1.boot ch).held.length = 64 := hG1.len
              have h256 : ∀ k : Nat, k < 8 → (rdOf ByteArray.empty (s1.boot ch).held (k : Int)).size = 256 := fun k hk => by
                rw [rdOf_at _ k (by rw [hlen]; omega)]
                exact hG1.all _ (List.getElem_mem _)
              generalize tornSector s1.pend (fateRead ch s1.pend.length).2.1 = T at *
              generalize s1.boot ch = sb at *
              generalize mayS s1 = X at *
              obtain ⟨held, pend, off, fuse, ops⟩ := sb
              dsimp only at hoff hfu1 hpe hlen h256 hlaw
              subst hoff hfu1 hpe
              clear hB2 hG2 hA hL
              gi_wp2_with fail
              refine (callsIn_wide.2 (both_off hB1)).mono ?_
              rintro e w' ⟨rfl, rfl⟩
              gi_wp2_with fail
              refine (callsIn_wide.2 (both_pending hB1)).mono ?_
              rintro e w' ⟨rfl, rfl⟩
              gi_wp2_with fail
              gi_loopw [16, 17] (fun u v wv => ∃ (k parts : Nat) (o : Int), k ≤ 8 ∧ u = .int .i64 (parts : Int) ∧ v = .int .i64 (k : Int) ∧ Both 8 w wv d g8 ⟨held, [], false, -1, o⟩ X ∧ Good ⟨held, [], false, -1, o⟩ 64 (200 + k) ∧ (parts = 0 ∨ (parts = 1 ∧ T < k)))
                (fun _ v _ => 8 - (intOf v).toNat)
              case atStart => exact ⟨0, 0, ops, Nat.zero_le _, rfl, rfl, hB1, hG1.more (by omega), .inl rfl⟩
              case round =>
                clear hB1 hG1
                obtain ⟨k, parts, o, hk, rfl, rfl, hB, hG, hparts⟩ := hrel
                rcases Nat.lt_or_ge k 8 with hkl | hkl
                · have hkl' : (k : Int) < 8 := by omega
                  have hk0 : 0 ≤ (k : Int) := by omega
                  have hq : (DS.mk held [] false (-1) o).read (k : Int) = (rdOf ByteArray.empty held (k : Int), 0, ⟨held, [], false, -1, o + 1⟩) := read_go (thereB_iff.2 ⟨hk0, by omega⟩) (by decide)
                  have hG2 := hG.read (k : Int)
                  have q := both_read hB hG (by omega) (i := (k : Int)) (wf_nat (by omega))
                  rw [hq] at q hG2
                  dsimp only at hG2
                  clear hq
                  have hsz := h256 k hkl
                  have hlw := hlaw k hkl
                  have hx256 := hX256 k hkl
                  have hxl := hXl k
                  generalize rdOf ByteArray.empty held (k : Int) = str at *
                  have hsz' : (str.size : Int) = 256 := by omega
                  gi_wp2_with fail
                  refine (callsIn_wide.2 q).mono ?_
                  clear q
                  rintro e z2 ⟨rfl, hB2⟩
                  obtain ⟨Ar, cr, hcell, hcr, hCr⟩ := both_read_row hB2 hkl
                  clear hB hG
                  gi_wp2_with fail
                  refine (callsIn_wide.2 (mixed_calls str (X k) Ar cr _ hsz hx256 hxl hCr hcr)).mono ?_
                  rintro e z3 ⟨a, b, rfl, hb3, m1, m2, m3⟩
                  have hB3 := hB2.below hb3
                  clear hcell hCr
                  cases a with
                  | true =>
                    gi_wp2
                    go_roundw
                    case rel => exact ⟨k + 1, parts, o + 1, by omega, rfl, by go_num, hB3, hG2, by rcases hparts with h | ⟨h, h2⟩; exact .inl h; exact .inr ⟨h, by omega⟩⟩
                    case measure => simp [intOf]; omega
                  | false =>
                    have hn := m1 rfl
                    rcases hlw with hlw | ⟨hT, hM⟩
                    · exact absurd hlw hn
                    have hb := m3 hM rfl
                    subst hb
                    obtain rfl : parts = 0 := by omega
                    gi_wp2
                    go_roundw
                    case rel => exact ⟨k + 1, 1, o + 1, by omega, rfl, by go_num, hB3, hG2, .inr ⟨rfl, by omega⟩⟩
                    case measure => simp [intOf]; omega
                · obtain rfl : k = 8 := by omega
                  have hb := hB.base
                  rcases hparts with rfl | ⟨rfl, _⟩
                  · gi_wp2
                    exact ⟨rfl, _, results_tmp rfl _ _ _, rfl, hb⟩
                  · gi_wp2
                    exact ⟨rfl, _, results_tmp rfl _ _ _, rfl, hb⟩
            ·
              have hle : ¬ (ch.length : Int) ≤ 100 := by omega
              have hle2 : (100 : Int) < ch.length := by omega
              have hCt : Kd.C (Kd.int .u8) w Ac (ch.take 100).length (ch.take 100) := Kd.C_take hCc (by omega)
              have hl100 : (ch.take 100).length = 100 := by rw [List.length_take]; omega
              gi_wp2_with fail
              have qb := both_boot (c0 := cc) hB2 hG2 (by omega) (Kd.C_below hCt hB2.base) (by rw [hl100]; omega) (fun y hy => hby y (List.mem_of_mem_take hy))
              rw [hl100] at qb
              refine (callsIn_wide.2 qb).mono ?_
              clear qb
              rintro e z1 ⟨rfl, hB1⟩
              have hG1 := hG2.boot (ch.take 100)
              have hlaw : ∀ k : Nat, k < 8 → (rdOf ByteArray.empty (s1.boot (ch.take 100)).held (k : Int) ∈ mayS s1 k ∨ (tornSector s1.pend (fateRead (ch.take 100) s1.pend.length).2.1 = (k : Int) ∧ Mixed (rdOf ByteArray.empty (s1.boot (ch.take 100)).held (k : Int)) (mayS s1 k))) := fun k hk => boot_may s1 (ch.take 100) (fun y hy => hby y (List.mem_of_mem_take hy)) hG2.all (fun x hx => (hG2.pok x hx).2) (by have := hG2.pl; omega) k (by rw [hG2.len]; omega)
              have hX256 : ∀ k : Nat, k < 8 → ∀ x ∈ mayS s1 k, x.size = 256 := fun k hk => mayS_256 hG2 (by omega)
              have hXl : ∀ k : Nat, (mayS s1 k).length ≤ 1000 := fun k => by have := mayS_length s1 k; have := hG2.pl; omega
              have hoff : (s1.boot (ch.take 100)).off = false := rfl
              have hfu1 : (s1.boot (ch.take 100)).fuse = -1 := rfl
              have hpe : (s1.boot (ch.take 100)).pend = [] := rfl
              have hlen : (s1.boot (ch.take 100)).held.length = 64 := hG1.len
              have h256 : ∀ k : Nat, k < 8 → (rdOf ByteArray.empty (s1.boot (ch.take 100)).held (k : Int)).size = 256 := fun k hk => by
                rw [rdOf_at _ k (by rw [hlen]; omega)]
                exact hG1.all _ (List.getElem_mem _)
              generalize tornSector s1.pend (fateRead (ch.take 100) s1.pend.length).2.1 = T at *
              generalize s1.boot (ch.take 100) = sb at *
              generalize mayS s1 = X at *
              obtain ⟨held, pend, off, fuse, ops⟩ := sb
              dsimp only at hoff hfu1 hpe hlen h256 hlaw
              subst hoff hfu1 hpe
              clear hB2 hG2 hA hL
              gi_wp2_with fail
              refine (callsIn_wide.2 (both_off hB1)).mono ?_
              rintro e w' ⟨rfl, rfl⟩
              gi_wp2_with fail
              refine (callsIn_wide.2 (both_pending hB1)).mono ?_
              rintro e w' ⟨rfl, rfl⟩
              gi_wp2_with fail
              gi_loopw [16, 17] (fun u v wv => ∃ (k parts : Nat) (o : Int), k ≤ 8 ∧ u = .int .i64 (parts : Int) ∧ v = .int .i64 (k : Int) ∧ Both 8 w wv d g8 ⟨held, [], false, -1, o⟩ X ∧ Good ⟨held, [], false, -1, o⟩ 64 (200 + k) ∧ (parts = 0 ∨ (parts = 1 ∧ T < k)))
                (fun _ v _ => 8 - (intOf v).toNat)
              case atStart => exact ⟨0, 0, ops, Nat.zero_le _, rfl, rfl, hB1, hG1.more (by omega), .inl rfl⟩
              case round =>
                clear hB1 hG1
                obtain ⟨k, parts, o, hk, rfl, rfl, hB, hG, hparts⟩ := hrel
                rcases Nat.lt_or_ge k 8 with hkl | hkl
                · have hkl' : (k : Int) < 8 := by omega
                  have hk0 : 0 ≤ (k : Int) := by omega
                  have hq : (DS.mk held [] false (-1) o).read (k : Int) = (rdOf ByteArray.empty held (k : Int), 0, ⟨held, [], false, -1, o + 1⟩) := read_go (thereB_iff.2 ⟨hk0, by omega⟩) (by decide)
                  have hG2 := hG.read (k : Int)
                  have q := both_read hB hG (by omega) (i := (k : Int)) (wf_nat (by omega))
                  rw [hq] at q hG2
                  dsimp only at hG2
                  clear hq
                  have hsz := h256 k hkl
                  have hlw := hlaw k hkl
                  have hx256 := hX256 k hkl
                  have hxl := hXl k
                  generalize rdOf ByteArray.empty held (k : Int) = str at *
                  have hsz' : (str.size : Int) = 256 := by omega
                  gi_wp2_with fail
                  refine (callsIn_wide.2 q).mono ?_
                  clear q
                  rintro e z2 ⟨rfl, hB2⟩
                  obtain ⟨Ar, cr, hcell, hcr, hCr⟩ := both_read_row hB2 hkl
                  clear hB hG
                  gi_wp2_with fail
                  refine (callsIn_wide.2 (mixed_calls str (X k) Ar cr _ hsz hx256 hxl hCr hcr)).mono ?_
                  rintro e z3 ⟨a, b, rfl, hb3, m1, m2, m3⟩
                  have hB3 := hB2.below hb3
                  clear hcell hCr
                  cases a with
                  | true =>
                    gi_wp2
                    go_roundw
                    case rel => exact ⟨k + 1, parts, o + 1, by omega, rfl, by go_num, hB3, hG2, by rcases hparts with h | ⟨h, h2⟩; exact .inl h; exact .inr ⟨h, by omega⟩⟩
                    case measure => simp [intOf]; omega
                  | false =>
                    have hn := m1 rfl
                    rcases hlw with hlw | ⟨hT, hM⟩
                    · exact absurd hlw hn
                    have hb := m3 hM rfl
                    subst hb
                    obtain rfl : parts = 0 := by omega
                    gi_wp2
                    go_roundw
                    case rel => exact ⟨k + 1, 1, o + 1, by omega, rfl, by go_num, hB3, hG2, .inr ⟨rfl, by omega⟩⟩
                    case measure => simp [intOf]; omega
                · obtain rfl : k = 8 := by omega
                  have hb := hB.base
                  rcases hparts with rfl | ⟨rfl, _⟩
                  · gi_wp2
                    exact ⟨rfl, _, results_tmp rfl _ _ _, rfl, hb⟩
                  · gi_wp2
                    exact ⟨rfl, _, results_tmp rfl _ _ _, rfl, hb⟩
          · obtain ⟨g0, off0, l0, c0, f0, a3, l3, c3, w1, hrun, ⟨u3, g3⟩, z3, hB3⟩ := both_append hB2 hk8 hk8 str (by have := mayS_length s k; have := hG.pl; omega) 33
            replace hB3 := hB3.congr (fun j _ => (mayS_write hh hp j).symm)
            have hat := at_write hp
            replace hrun := Lib.hid hrun
            gi_wp2_with (gi_at_builtin; refine wpListIn_append_run _ rfl _ _ _ _ rfl _ _ rfl rfl hrun.out ?_)
            clear hrun f0 hB2
            generalize w1.setCell ⟨g8, k, none⟩ (.slice a3 l3 c3) = y3 at *
            clear g3 z3 hG hh hp
            refine (callsIn_wide.2 (both_read hB3 hG2 (by omega) (wf_nat (by omega)))).mono ?_
            rintro e y4 ⟨rfl, hB4⟩
            have hG4 := hG2.read (k : Int)
            obtain ⟨t, er, s2, hq, hh, hp, hcase⟩ := read_may2 s1 (k : Int)
            rw [hq] at hB4 hG4 ⊢
            dsimp only at hB4 hG4 ⊢
            rw [← mayS_eq hh hp] at hB4
            rw [hat] at hcase
            clear hq hB3 hG2 hh hp hat
            rcases hcase with her | ⟨rfl, rfl⟩
            · have hne : ¬ er = 0 := by omega
              clear her
              rcases (by omega : ch.length ≤ 100 ∨ 100 < ch.length) with hch | hch
              ·
                have hle : (ch.length : Int) ≤ 100 := by omega
                gi_wp2_with fail
                have qb := both_boot (c0 := cc) hB4 hG4 (by omega) (Kd.C_below hCc hB4.base) hlc hby
                refine (callsIn_wide.2 qb).mono ?_
                clear qb
                rintro e z1 ⟨rfl, hB1⟩
                have hG1 := hG4.boot ch
                have hlaw : ∀ k : Nat, k < 8 → (rdOf ByteArray.empty (s2.boot ch).held (k : Int) ∈ mayS s2 k ∨ (tornSector s2.pend (fateRead ch s2.pend.length).2.1 = (k : Int) ∧ Mixed (rdOf ByteArray.empty (s2.boot ch).held (k : Int)) (mayS s2 k))) := fun k hk => boot_may s2 ch hby hG4.all (fun x hx => (hG4.pok x hx).2) (by have := hG4.pl; omega) k (by rw [hG4.len]; omega)
                have hX256 : ∀ k : Nat, k < 8 → ∀ x ∈ mayS s2 k, x.size = 256 := fun k hk => mayS_256 hG4 (by omega)
                have hXl : ∀ k : Nat, (mayS s2 k).length ≤ 1000 := fun k => by have := mayS_length s2 k; have := hG4.pl; omega
                have hoff : (s2.boot ch).off = false := rfl
                have hfu1 : (s2.boot ch).fuse = -1 := rfl
                have hpe : (s2.boot ch).pend = [] := rfl
                have hlen : (s2.boot ch).held.length = 64 := hG1.len
                have h256 : ∀ k : Nat, k < 8 → (rdOf ByteArray.empty (s2.boot ch).held (k : Int)).size = 256 := fun k hk => by
                  rw [rdOf_at _ k (by rw [hlen]; omega)]
                  exact hG1.all _ (List.getElem_mem _)
                generalize tornSector s2.pend (fateRead ch s2.pend.length).2.1 = T at *
                generalize s2.boot ch = sb at *
                generalize mayS s2 = X at *
                obtain ⟨held, pend, off, fuse, ops⟩ := sb
                dsimp only at hoff hfu1 hpe hlen h256 hlaw
                subst hoff hfu1 hpe
                clear hB4 hG4 hA hL
                gi_wp2_with fail
                refine (callsIn_wide.2 (both_off hB1)).mono ?_
                rintro e w' ⟨rfl, rfl⟩
                gi_wp2_with fail
                refine (callsIn_wide.2 (both_pending hB1)).mono ?_
                rintro e w' ⟨rfl, rfl⟩
                gi_wp2_with fail
                gi_loopw [16, 17] (fun u v wv => ∃ (k parts : Nat) (o : Int), k ≤ 8 ∧ u = .int .i64 (parts : Int) ∧ v = .int .i64 (k : Int) ∧ Both 8 w wv d g8 ⟨held, [], false, -1, o⟩ X ∧ Good ⟨held, [], false, -1, o⟩ 64 (200 + k) ∧ (parts = 0 ∨ (parts = 1 ∧ T < k)))
                  (fun _ v _ => 8 - (intOf v).toNat)
                case atStart => exact ⟨0, 0, ops, Nat.zero_le _, rfl, rfl, hB1, hG1.more (by omega), .inl rfl⟩
                case round =>
                  clear hB1 hG1
                  obtain ⟨k, parts, o, hk, rfl, rfl, hB, hG, hparts⟩ := hrel
                  rcases Nat.lt_or_ge k 8 with hkl | hkl
                  · have hkl' : (k : Int) < 8 := by omega
                    have hk0 : 0 ≤ (k : Int) := by omega
                    have hq : (DS.mk held [] false (-1) o).read (k : Int) = (rdOf ByteArray.empty held (k : Int), 0, ⟨held, [], false, -1, o + 1⟩) := read_go (thereB_iff.2 ⟨hk0, by omega⟩) (by decide)
                    have hG2 := hG.read (k : Int)
                    have q := both_read hB hG (by omega) (i := (k : Int)) (wf_nat (by omega))
                    rw [hq] at q hG2
                    dsimp only at hG2
                    clear hq
                    have hsz := h256 k hkl
                    have hlw := hlaw k hkl
                    have hx256 := hX256 k hkl
                    have hxl := hXl k
                    generalize rdOf ByteArray.empty held (k : Int) = str at *
                    have hsz' : (str.size : Int) = 256 := by omega
                    gi_wp2_with fail
                    refine (callsIn_wide.2 q).mono ?_
                    clear q
                    rintro e z2 ⟨rfl, hB2⟩
                    obtain ⟨Ar, cr, hcell, hcr, hCr⟩ := both_read_row hB2 hkl
                    clear hB hG
                    gi_wp2_with fail
                    refine (callsIn_wide.2 (mixed_calls str (X k) Ar cr _ hsz hx256 hxl hCr hcr)).mono ?_
                    rintro e z3 ⟨a, b, rfl, hb3, m1, m2, m3⟩
                    have hB3 := hB2.below hb3
                    clear hcell hCr
                    cases a with
                    | true =>
                      gi_wp2
                      go_roundw
                      case rel => exact ⟨k + 1, parts, o + 1, by omega, rfl, by go_num, hB3, hG2, by rcases hparts with h | ⟨h, h2⟩; exact .inl h; exact .inr ⟨h, by omega⟩⟩
                      case measure => simp [intOf]; omega
                    | false =>
                      have hn := m1 rfl
                      rcases hlw with hlw | ⟨hT, hM⟩
                      · exact absurd hlw hn
                      have hb := m3 hM rfl
                      subst hb
                      obtain rfl : parts = 0 := by omega
                      gi_wp2
                      go_roundw
                      case rel => exact ⟨k + 1, 1, o + 1, by omega, rfl, by go_num, hB3, hG2, .inr ⟨rfl, by omega⟩⟩
                      case measure => simp [intOf]; omega
                  · obtain rfl : k = 8 := by omega
                    have hb := hB.base
                    rcases hparts with rfl | ⟨rfl, _⟩
                    · gi_wp2
                      exact ⟨rfl, _, results_tmp rfl _ _ _, rfl, hb⟩
                    · gi_wp2
                      exact ⟨rfl, _, results_tmp rfl _ _ _, rfl, hb⟩
              ·
                have hle : ¬ (ch.length : Int) ≤ 100 := by omega
                have hle2 : (100 : Int) < ch.length := by omega
                have hCt : Kd.C (Kd.int .u8) w Ac (ch.take 100).length (ch.take 100) := Kd.C_take hCc (by omega)
                have hl100 : (ch.take 100).length = 100 := by rw [List.length_take]; omega
                gi_wp2_with fail
                have qb := both_boot (c0 := cc) hB4 hG4 (by omega) (Kd.C_below hCt hB4.base) (by rw [hl100]; omega) (fun y hy => hby y (List.mem_of_mem_take hy))
                rw [hl100] at qb
                refine (callsIn_wide.2 qb).mono ?_
                clear qb
                rintro e z1 ⟨rfl, hB1⟩
                have hG1 := hG4.boot (ch.take 100)
                have hlaw : ∀ k : Nat, k < 8 → (rdOf ByteArray.empty (s2.boot (ch.take 100)).held (k : Int) ∈ mayS s2 k ∨ (tornSector s2.pend (fateRead (ch.take 100) s2.pend.length).2.1 = (k : Int) ∧ Mixed (rdOf ByteArray.empty (s2.boot (ch.take 100)).held (k : Int)) (mayS s2 k))) := fun k hk => boot_may s2 (ch.take 100) (fun y hy => hby y (List.mem_of_mem_take hy)) hG4.all (fun x hx => (hG4.pok x hx).2) (by have := hG4.pl; omega) k (by rw [hG4.len]; omega)
                have hX256 : ∀ k : Nat, k < 8 → ∀ x ∈ mayS s2 k, x.size = 256 := fun k hk => mayS_256 hG4 (by omega)
                have hXl : ∀ k : Nat, (mayS s2 k).length ≤ 1000 := fun k => by have := mayS_length s2 k; have := hG4.pl; omega
                have hoff : (s2.boot (ch.take 100)).off = false := rfl
                have hfu1 : (s2.boot (ch.take 100)).fuse = -1 := rfl
                have hpe : (s2.boot (ch.take 100)).pend = [] := rfl
                have hlen : (s2.boot (ch.take 100)).held.length = 64 := hG1.len
                have h256 : ∀ k : Nat, k < 8 → (rdOf ByteArray.empty (s2.boot (ch.take 100)).held (k : Int)).size = 256 := fun k hk => by
                  rw [rdOf_at _ k (by rw [hlen]; omega)]
                  exact hG1.all _ (List.getElem_mem _)
                generalize tornSector s2.pend (fateRead (ch.take 100) s2.pend.length).2.1 = T at *
                generalize s2.boot (ch.take 100) = sb at *
                generalize mayS s2 = X at *
                obtain ⟨held, pend, off, fuse, ops⟩ := sb
                dsimp only at hoff hfu1 hpe hlen h256 hlaw
                subst hoff hfu1 hpe
                clear hB4 hG4 hA hL
                gi_wp2_with fail
                refine (callsIn_wide.2 (both_off hB1)).mono ?_
                rintro e w' ⟨rfl, rfl⟩
                gi_wp2_with fail
                refine (callsIn_wide.2 (both_pending hB1)).mono ?_
                rintro e w' ⟨rfl, rfl⟩
                gi_wp2_with fail
                gi_loopw [16, 17] (fun u v wv => ∃ (k parts : Nat) (o : Int), k ≤ 8 ∧ u = .int .i64 (parts : Int) ∧ v = .int .i64 (k : Int) ∧ Both 8 w wv d g8 ⟨held, [], false, -1, o⟩ X ∧ Good ⟨held, [], false, -1, o⟩ 64 (200 + k) ∧ (parts = 0 ∨ (parts = 1 ∧ T < k)))
                  (fun _ v _ => 8 - (intOf v).toNat)
                case atStart => exact ⟨0, 0, ops, Nat.zero_le _, rfl, rfl, hB1, hG1.more (by omega), .inl rfl⟩
                case round =>
                  clear hB1 hG1
                  obtain ⟨k, parts, o, hk, rfl, rfl, hB, hG, hparts⟩ := hrel
                  rcases Nat.lt_or_ge k 8 with hkl | hkl
                  · have hkl' : (k : Int) < 8 := by omega
                    have hk0 : 0 ≤ (k : Int) := by omega
                    have hq : (DS.mk held [] false (-1) o).read (k : Int) = (rdOf ByteArray.empty held (k : Int), 0, ⟨held, [], false, -1, o + 1⟩) := read_go (thereB_iff.2 ⟨hk0, by omega⟩) (by decide)
                    have hG2 := hG.read (k : Int)
                    have q := both_read hB hG (by omega) (i := (k : Int)) (wf_nat (by omega))
                    rw [hq] at q hG2
                    dsimp only at hG2
                    clear hq
                    have hsz := h256 k hkl
                    have hlw := hlaw k hkl
                    have hx256 := hX256 k hkl
                    have hxl := hXl k
                    generalize rdOf ByteArray.empty held (k : Int) = str at *
                    have hsz' : (str.size : Int) = 256 := by omega
                    gi_wp2_with fail
                    refine (callsIn_wide.2 q).mono ?_
                    clear q
                    rintro e z2 ⟨rfl, hB2⟩
                    obtain ⟨Ar, cr, hcell, hcr, hCr⟩ := both_read_row hB2 hkl
                    clear hB hG
                    gi_wp2_with fail
                    refine (callsIn_wide.2 (mixed_calls str (X k) Ar cr _ hsz hx256 hxl hCr hcr)).mono ?_
                    rintro e z3 ⟨a, b, rfl, hb3, m1, m2, m3⟩
                    have hB3 := hB2.below hb3
                    clear hcell hCr
                    cases a with
                    | true =>
                      gi_wp2
                      go_roundw
                      case rel => exact ⟨k + 1, parts, o + 1, by omega, rfl, by go_num, hB3, hG2, by rcases hparts with h | ⟨h, h2⟩; exact .inl h; exact .inr ⟨h, by omega⟩⟩
                      case measure => simp [intOf]; omega
                    | false =>
                      have hn := m1 rfl
                      rcases hlw with hlw | ⟨hT, hM⟩
                      · exact absurd hlw hn
                      have hb := m3 hM rfl
                      subst hb
                      obtain rfl : parts = 0 := by omega
                      gi_wp2
                      go_roundw
                      case rel => exact ⟨k + 1, 1, o + 1, by omega, rfl, by go_num, hB3, hG2, .inr ⟨rfl, by omega⟩⟩
                      case measure => simp [intOf]; omega
                  · obtain rfl : k = 8 := by omega
                    have hb := hB.base
                    rcases hparts with rfl | ⟨rfl, _⟩
                    · gi_wp2
                      exact ⟨rfl, _, results_tmp rfl _ _ _, rfl, hb⟩
                    · gi_wp2
                      exact ⟨rfl, _, results_tmp rfl _ _ _, rfl, hb⟩
            · have hbW4 := hB4.base
              have b2 := (hbW4.cell (p := ⟨(ad.add (i * 3)).block, (ad.add (i * 3)).off + 2, none⟩) hadl).trans a2
              cases hbar : x.bar with
              | false =>
                rw [hbar] at b2
                gi_wp2
                go_roundw
                case rel => exact ⟨i + 1, s2, by omega, by omega, by go_num, hB4, hG4.more (by omega)⟩
                case measure => simp [intOf]; omega
              | true =>
                rw [hbar] at b2
                gi_wp2_with fail
                refine (callsIn_wide.2 (both_barrier hB4 hG4 (by omega) (by omega))).mono ?_
                rintro e y5 ⟨rfl, hB5⟩
                have hG5 := hG4.barrier
                obtain ⟨er, s3, hq, hcase⟩ := barrier_may s2
                rw [hq] at hB5 hG5 ⊢
                dsimp only at hB5 hG5 ⊢
                clear hq hB4 b2 a0 a1 a2
                rcases hcase with ⟨her, hh, hp⟩ | ⟨rfl, hh, hp⟩
                · have hne : ¬ er = 0 := by omega
                  rw [← mayS_eq hh hp] at hB5
                  clear hh hp hG4 her
                  rcases (by omega : ch.length ≤ 100 ∨ 100 < ch.length) with hch | hch
                  ·
                    have hle : (ch.length : Int) ≤ 100 := by omega
                    gi_wp2_with fail
                    have qb := both_boot (c0 := cc) hB5 hG5 (by omega) (Kd.C_below hCc hB5.base) hlc hby
                    refine (callsIn_wide.2 qb).mono ?_
                    clear qb
                    rintro e z1 ⟨rfl, hB1⟩
                    have hG1 := hG5.boot ch
                    have hlaw : ∀ k : Nat, k < 8 → (rdOf ByteArray.empty (s3.boot ch).held (k : Int) ∈ mayS s3 k ∨ (tornSector s3.pend (fateRead ch s3.pend.length).2.1 = (k : Int) ∧ Mixed (rdOf ByteArray.empty (s3.boot ch).held (k : Int)) (mayS s3 k))) := fun k hk => boot_may s3 ch hby hG5.all (fun x hx => (hG5.pok x hx).2) (by have := hG5.pl; omega) k (by rw [hG5.len]; omega)
                    have hX256 : ∀ k : Nat, k < 8 → ∀ x ∈ mayS s3 k, x.size = 256 := fun k hk => mayS_256 hG5 (by omega)
                    have hXl : ∀ k : Nat, (mayS s3 k).length ≤ 1000 := fun k => by have := mayS_length s3 k; have := hG5.pl; omega
                    have hoff : (s3.boot ch).off = false := rfl
                    have hfu1 : (s3.boot ch).fuse = -1 := rfl
                    have hpe : (s3.boot ch).pend = [] := rfl
                    have hlen : (s3.boot ch).held.length = 64 := hG1.len
                    have h256 : ∀ k : Nat, k < 8 → (rdOf ByteArray.empty (s3.boot ch).held (k : Int)).size = 256 := fun k hk => by
                      rw [rdOf_at _ k (by rw [hlen]; omega)]
                      exact hG1.all _ (List.getElem_mem _)
                    generalize tornSector s3.pend (fateRead ch s3.pend.length).2.1 = T at *
                    generalize s3.boot ch = sb at *
                    generalize mayS s3 = X at *
                    obtain ⟨held, pend, off, fuse, ops⟩ := sb
                    dsimp only at hoff hfu1 hpe hlen h256 hlaw
                    subst hoff hfu1 hpe
                    clear hB5 hG5 hA hL
                    gi_wp2_with fail
                    refine (callsIn_wide.2 (both_off hB1)).mono ?_
                    rintro e w' ⟨rfl, rfl⟩
                    gi_wp2_with fail
                    refine (callsIn_wide.2 (both_pending hB1)).mono ?_
                    rintro e w' ⟨rfl, rfl⟩
                    gi_wp2_with fail
                    gi_loopw [16, 17] (fun u v wv => ∃ (k parts : Nat) (o : Int), k ≤ 8 ∧ u = .int .i64 (parts : Int) ∧ v = .int .i64 (k : Int) ∧ Both 8 w wv d g8 ⟨held, [], false, -1, o⟩ X ∧ Good ⟨held, [], false, -1, o⟩ 64 (200 + k) ∧ (parts = 0 ∨ (parts = 1 ∧ T < k)))
                      (fun _ v _ => 8 - (intOf v).toNat)
                    case atStart => exact ⟨0, 0, ops, Nat.zero_le _, rfl, rfl, hB1, hG1.more (by omega), .inl rfl⟩
                    case round =>
                      clear hB1 hG1
                      obtain ⟨k, parts, o, hk, rfl, rfl, hB, hG, hparts⟩ := hrel
                      rcases Nat.lt_or_ge k 8 with hkl | hkl
                      · have hkl' : (k : Int) < 8 := by omega
                        have hk0 : 0 ≤ (k : Int) := by omega
                        have hq : (DS.mk held [] false (-1) o).read (k : Int) = (rdOf ByteArray.empty held (k : Int), 0, ⟨held, [], false, -1, o + 1⟩) := read_go (thereB_iff.2 ⟨hk0, by omega⟩) (by decide)
                        have hG2 := hG.read (k : Int)
                        have q := both_read hB hG (by omega) (i := (k : Int)) (wf_nat (by omega))
                        rw [hq] at q hG2
                        dsimp only at hG2
                        clear hq
                        have hsz := h256 k hkl
                        have hlw := hlaw k hkl
                        have hx256 := hX256 k hkl
                        have hxl := hXl k
                        generalize rdOf ByteArray.empty held (k : Int) = str at *
                        have hsz' : (str.size : Int) = 256 := by omega
                        gi_wp2_with fail
                        refine (callsIn_wide.2 q).mono ?_
                        clear q
                        rintro e z2 ⟨rfl, hB2⟩
                        obtain ⟨Ar, cr, hcell, hcr, hCr⟩ := both_read_row hB2 hkl
                        clear hB hG
                        gi_wp2_with fail
                        refine (callsIn_wide.2 (mixed_calls str (X k) Ar cr _ hsz hx256 hxl hCr hcr)).mono ?_
                        rintro e z3 ⟨a, b, rfl, hb3, m1, m2, m3⟩
                        have hB3 := hB2.below hb3
                        clear hcell hCr
                        cases a with
                        | true =>
                          gi_wp2
                          go_roundw
                          case rel => exact ⟨k + 1, parts, o + 1, by omega, rfl, by go_num, hB3, hG2, by rcases hparts with h | ⟨h, h2⟩; exact .inl h; exact .inr ⟨h, by omega⟩⟩
                          case measure => simp [intOf]; omega
                        | false =>
                          have hn := m1 rfl
                          rcases hlw with hlw | ⟨hT, hM⟩
                          · exact absurd hlw hn
                          have hb := m3 hM rfl
                          subst hb
                          obtain rfl : parts = 0 := by omega
                          gi_wp2
                          go_roundw
                          case rel => exact ⟨k + 1, 1, o + 1, by omega, rfl, by go_num, hB3, hG2, .inr ⟨rfl, by omega⟩⟩
                          case measure => simp [intOf]; omega
                      · obtain rfl : k = 8 := by omega
                        have hb := hB.base
                        rcases hparts with rfl | ⟨rfl, _⟩
                        · gi_wp2
                          exact ⟨rfl, _, results_tmp rfl _ _ _, rfl, hb⟩
                        · gi_wp2
                          exact ⟨rfl, _, results_tmp rfl _ _ _, rfl, hb⟩
                  ·
                    have hle : ¬ (ch.length : Int) ≤ 100 := by omega
                    have hle2 : (100 : Int) < ch.length := by omega
                    have hCt : Kd.C (Kd.int .u8) w Ac (ch.take 100).length (ch.take 100) := Kd.C_take hCc (by omega)
                    have hl100 : (ch.take 100).length = 100 := by rw [List.length_take]; omega
                    gi_wp2_with fail
                    have qb := both_boot (c0 := cc) hB5 hG5 (by omega) (Kd.C_below hCt hB5.base) (by rw [hl100]; omega) (fun y hy => hby y (List.mem_of_mem_take hy))
                    rw [hl100] at qb
                    refine (callsIn_wide.2 qb).mono ?_
                    clear qb
                    rintro e z1 ⟨rfl, hB1⟩
                    have hG1 := hG5.boot (ch.take 100)
                    have hlaw : ∀ k : Nat, k < 8 → (rdOf ByteArray.empty (s3.boot (ch.take 100)).held (k : Int) ∈ mayS s3 k ∨ (tornSector s3.pend (fateRead (ch.take 100) s3.pend.length).2.1 = (k : Int) ∧ Mixed (rdOf ByteArray.empty (s3.boot (ch.take 100)).held (k : Int)) (mayS s3 k))) := fun k hk => boot_may s3 (ch.take 100) (fun y hy => hby y (List.mem_of_mem_take hy)) hG5.all (fun x hx => (hG5.pok x hx).2) (by have := hG5.pl; omega) k (by rw [hG5.len]; omega)
                    have hX256 : ∀ k : Nat, k < 8 → ∀ x ∈ mayS s3 k, x.size = 256 := fun k hk => mayS_256 hG5 (by omega)
                    have hXl : ∀ k : Nat, (mayS s3 k).length ≤ 1000 := fun k => by have := mayS_length s3 k; have := hG5.pl; omega
                    have hoff : (s3.boot (ch.take 100)).off = false := rfl
                    have hfu1 : (s3.boot (ch.take 100)).fuse = -1 := rfl
                    have hpe : (s3.boot (ch.take 100)).pend = [] := rfl
                    have hlen : (s3.boot (ch.take 100)).held.length = 64 := hG1.len
                    have h256 : ∀ k : Nat, k < 8 → (rdOf ByteArray.empty (s3.boot (ch.take 100)).held (k : Int)).size = 256 := fun k hk => by
                      rw [rdOf_at _ k (by rw [hlen]; omega)]
                      exact hG1.all _ (List.getElem_mem _)
                    generalize tornSector s3.pend (fateRead (ch.take 100) s3.pend.length).2.1 = T at *
                    generalize s3.boot (ch.take 100) = sb at *
                    generalize mayS s3 = X at *
                    obtain ⟨held, pend, off, fuse, ops⟩ := sb
                    dsimp only at hoff hfu1 hpe hlen h256 hlaw
                    subst hoff hfu1 hpe
                    clear hB5 hG5 hA hL
                    gi_wp2_with fail
                    refine (callsIn_wide.2 (both_off hB1)).mono ?_
                    rintro e w' ⟨rfl, rfl⟩
                    gi_wp2_with fail
                    refine (callsIn_wide.2 (both_pending hB1)).mono ?_
                    rintro e w' ⟨rfl, rfl⟩
                    gi_wp2_with fail
                    gi_loopw [16, 17] (fun u v wv => ∃ (k parts : Nat) (o : Int), k ≤ 8 ∧ u = .int .i64 (parts : Int) ∧ v = .int .i64 (k : Int) ∧ Both 8 w wv d g8 ⟨held, [], false, -1, o⟩ X ∧ Good ⟨held, [], false, -1, o⟩ 64 (200 + k) ∧ (parts = 0 ∨ (parts = 1 ∧ T < k)))
                      (fun _ v _ => 8 - (intOf v).toNat)
                    case atStart => exact ⟨0, 0, ops, Nat.zero_le _, rfl, rfl, hB1, hG1.more (by omega), .inl rfl⟩
                    case round =>
                      clear hB1 hG1
                      obtain ⟨k, parts, o, hk, rfl, rfl, hB, hG, hparts⟩ := hrel
                      rcases Nat.lt_or_ge k 8 with hkl | hkl
                      · have hkl' : (k : Int) < 8 := by omega
                        have hk0 : 0 ≤ (k : Int) := by omega
                        have hq : (DS.mk held [] false (-1) o).read (k : Int) = (rdOf ByteArray.empty held (k : Int), 0, ⟨held, [], false, -1, o + 1⟩) := read_go (thereB_iff.2 ⟨hk0, by omega⟩) (by decide)
                        have hG2 := hG.read (k : Int)
                        have q := both_read hB hG (by omega) (i := (k : Int)) (wf_nat (by omega))
                        rw [hq] at q hG2
                        dsimp only at hG2
                        clear hq
                        have hsz := h256 k hkl
                        have hlw := hlaw k hkl
                        have hx256 := hX256 k hkl
                        have hxl := hXl k
                        generalize rdOf ByteArray.empty held (k : Int) = str at *
                        have hsz' : (str.size : Int) = 256 := by omega
                        gi_wp2_with fail
                        refine (callsIn_wide.2 q).mono ?_
                        clear q
                        rintro e z2 ⟨rfl, hB2⟩
                        obtain ⟨Ar, cr, hcell, hcr, hCr⟩ := both_read_row hB2 hkl
                        clear hB hG
                        gi_wp2_with fail
                        refine (callsIn_wide.2 (mixed_calls str (X k) Ar cr _ hsz hx256 hxl hCr hcr)).mono ?_
                        rintro e z3 ⟨a, b, rfl, hb3, m1, m2, m3⟩
                        have hB3 := hB2.below hb3
                        clear hcell hCr
                        cases a with
                        | true =>
                          gi_wp2
                          go_roundw
                          case rel => exact ⟨k + 1, parts, o + 1, by omega, rfl, by go_num, hB3, hG2, by rcases hparts with h | ⟨h, h2⟩; exact .inl h; exact .inr ⟨h, by omega⟩⟩
                          case measure => simp [intOf]; omega
                        | false =>
                          have hn := m1 rfl
                          rcases hlw with hlw | ⟨hT, hM⟩
                          · exact absurd hlw hn
                          have hb := m3 hM rfl
                          subst hb
                          obtain rfl : parts = 0 := by omega
                          gi_wp2
                          go_roundw
                          case rel => exact ⟨k + 1, 1, o + 1, by omega, rfl, by go_num, hB3, hG2, .inr ⟨rfl, by omega⟩⟩
                          case measure => simp [intOf]; omega
                      · obtain rfl : k = 8 := by omega
                        have hb := hB.base
                        rcases hparts with rfl | ⟨rfl, _⟩
                        · gi_wp2
                          exact ⟨rfl, _, results_tmp rfl _ _ _, rfl, hb⟩
                        · gi_wp2
                          exact ⟨rfl, _, results_tmp rfl _ _ _, rfl, hb⟩
                · gi_wp2_with fail
                  gi_loopw [15] (fun u wv => ∃ j : Nat, j ≤ 8 ∧ u = .int .i64 (j : Int) ∧ Both 8 w wv d g8 s3 (fun k => if k < j then mayS s3 k else mayS s2 k))
                    (fun u _ => 8 - (intOf u).toNat)
                  case atStart => exact ⟨0, Nat.zero_le _, rfl, hB5.congr (fun k _ => by rw [if_neg (by omega)])⟩
                  case round =>
                    clear hB5
                    obtain ⟨j, hj, rfl, hB6⟩ := hrel
                    rcases Nat.lt_or_ge j 8 with hj8 | hj8
                    · have hj8' : (j : Int) < 8 := by omega
                      have hj0 : 0 ≤ (j : Int) := by omega
                      obtain ⟨ys, hys⟩ := mayS_last hG4 (k := j) (by omega)
                      obtain ⟨g, off, cap, f0, hl1, hl2, hB7⟩ := both_cut hB6.drew hj8 hj8 (ys := ys) (x := (comeAll s2.held s2.pend).getD j ByteArray.empty) (by rw [if_neg (by omega)]; exact hys)
                      replace hB7 := hB7.congr (Y := fun k => if k < j + 1 then mayS s3 k else mayS s2 k) (fun i _ => by
                        rw [mayS_barrier hh hp]
                        by_cases e : i = j
                        · subst e; rw [if_pos rfl, if_pos (by omega)]
                        · rw [if_neg e]
                          by_cases e2 : i < j
                          · rw [if_pos e2, if_pos (by omega)]
                          · rw [if_neg e2, if_neg (by omega)])
                      obtain ⟨_, zf⟩ := both_cell8 hB6.drew hj8
                      clear hB6 hys
                      generalize ys.length = l at *
                      gi_wp2_with fail
                      refine wpIn_region_phases 10 [.int .i64 j, .int .i64 j, .pointer (some ⟨g8, j, none⟩), .slice (some ⟨g, off, none⟩) (l + 1) cap, .int .i64 j, .pointer (some ⟨g8, j, none⟩), .slice (some ⟨g, off, none⟩) (l + 1) cap, .int .i64 ((l + 1 : Nat) : Int), .int .i64 l, .slice (some ⟨g, off + l, none⟩) 1 (cap - l)]
                        (fun W' => W' = wr.drew) (by kernel_rfl) (by kernel_rfl) rfl rfl ?st ?ta
                      case st =>
                        rintro W' rfl
                        simp only [List.take_succ_cons, List.take_zero, AllIn, fillT, List.setIfInBounds_toArray, List.set_cons_zero, List.set_cons_succ]
                        refine ⟨?_, ?_, ?_, ?_, ?_, ?_, ?_, ?_, ?_, ?_, trivial⟩
                        all_goals
                          gi_wp2
                          first | exact ⟨rfl, rfl⟩ | (have hw : wrap64 (l : Int) = (l : Int) := (by unfold maxLen at hl2; unfold wrap64; omega); rw [hw]; exact ⟨rfl, rfl⟩)
                      case ta =>
                        rintro W' rfl
                        simp only [List.take_succ_cons, List.take_zero, List.drop_succ_cons, List.drop_zero, fillT, List.setIfInBounds_toArray, List.set_cons_zero, List.set_cons_succ]
                        gi_wp2
                        go_roundw
                        case rel => exact ⟨j + 1, by omega, by go_num, hB7⟩
                        case measure => simp [intOf]; omega
                    · obtain rfl : j = 8 := by omega
                      replace hB6 := hB6.congr (Y := mayS s3) (fun k hk => by rw [if_pos hk])
                      gi_wp2_with fail
                      go_roundw
                      case rel => exact ⟨i + 1, s3, by omega, by omega, by go_num, hB6, hG5.more (by omega)⟩
                      case measure => simp [intOf]; omega
        · have hil' : ((30 : Nat) : Int) < L.length := by omega
          rcases (by omega : ch.length ≤ 100 ∨ 100 < ch.length) with hch | hch
          ·
            have hle : (ch.length : Int) ≤ 100 := by omega
            gi_wp2_with fail
            have qb := both_boot (c0 := cc) hB hG (by omega) (Kd.C_below hCc hB.base) hlc hby
            refine (callsIn_wide.2 qb).mono ?_
            clear qb
            rintro e z1 ⟨rfl, hB1⟩
            have hG1 := hG.boot ch
            have hlaw : ∀ k : Nat, k < 8 → (rdOf ByteArray.empty (s.boot ch).held (k : Int) ∈ mayS s k ∨ (tornSector s.pend (fateRead ch s.pend.length).2.1 = (k : Int) ∧ Mixed (rdOf ByteArray.empty (s.boot ch).held (k : Int)) (mayS s k))) := fun k hk => boot_may s ch hby hG.all (fun x hx => (hG.pok x hx).2) (by have := hG.pl; omega) k (by rw [hG.len]; omega)
            have hX256 : ∀ k : Nat, k < 8 → ∀ x ∈ mayS s k, x.size = 256 := fun k hk => mayS_256 hG (by omega)
            have hXl : ∀ k : Nat, (mayS s k).length ≤ 1000 := fun k => by have := mayS_length s k; have := hG.pl; omega
            have hoff : (s.boot ch).off = false := rfl
            have hfu1 : (s.boot ch).fuse = -1 := rfl
            have hpe : (s.boot ch).pend = [] := rfl
            have hlen : (s.boot ch).held.length = 64 := hG1.len
            have h256 : ∀ k : Nat, k < 8 → (rdOf ByteArray.empty (s.boot ch).held (k : Int)).size = 256 := fun k hk => by
              rw [rdOf_at _ k (by rw [hlen]; omega)]
              exact hG1.all _ (List.getElem_mem _)
            generalize tornSector s.pend (fateRead ch s.pend.length).2.1 = T at *
            generalize s.boot ch = sb at *
            generalize mayS s = X at *
            obtain ⟨held, pend, off, fuse, ops⟩ := sb
            dsimp only at hoff hfu1 hpe hlen h256 hlaw
            subst hoff hfu1 hpe
            clear hB hG hA hL
            gi_wp2_with fail
            refine (callsIn_wide.2 (both_off hB1)).mono ?_
            rintro e w' ⟨rfl, rfl⟩
            gi_wp2_with fail
            refine (callsIn_wide.2 (both_pending hB1)).mono ?_
            rintro e w' ⟨rfl, rfl⟩
            gi_wp2_with fail
            gi_loopw [16, 17] (fun u v wv => ∃ (k parts : Nat) (o : Int), k ≤ 8 ∧ u = .int .i64 (parts : Int) ∧ v = .int .i64 (k : Int) ∧ Both 8 w wv d g8 ⟨held, [], false, -1, o⟩ X ∧ Good ⟨held, [], false, -1, o⟩ 64 (200 + k) ∧ (parts = 0 ∨ (parts = 1 ∧ T < k)))
              (fun _ v _ => 8 - (intOf v).toNat)
            case atStart => exact ⟨0, 0, ops, Nat.zero_le _, rfl, rfl, hB1, hG1.more (by omega), .inl rfl⟩
            case round =>
              clear hB1 hG1
              obtain ⟨k, parts, o, hk, rfl, rfl, hB, hG, hparts⟩ := hrel
              rcases Nat.lt_or_ge k 8 with hkl | hkl
              · have hkl' : (k : Int) < 8 := by omega
                have hk0 : 0 ≤ (k : Int) := by omega
                have hq : (DS.mk held [] false (-1) o).read (k : Int) = (rdOf ByteArray.empty held (k : Int), 0, ⟨held, [], false, -1, o + 1⟩) := read_go (thereB_iff.2 ⟨hk0, by omega⟩) (by decide)
                have hG2 := hG.read (k : Int)
                have q := both_read hB hG (by omega) (i := (k : Int)) (wf_nat (by omega))
                rw [hq] at q hG2
                dsimp only at hG2
                clear hq
                have hsz := h256 k hkl
                have hlw := hlaw k hkl
                have hx256 := hX256 k hkl
                have hxl := hXl k
                generalize rdOf ByteArray.empty held (k : Int) = str at *
                have hsz' : (str.size : Int) = 256 := by omega
                gi_wp2_with fail
                refine (callsIn_wide.2 q).mono ?_
                clear q
                rintro e z2 ⟨rfl, hB2⟩
                obtain ⟨Ar, cr, hcell, hcr, hCr⟩ := both_read_row hB2 hkl
                clear hB hG
                gi_wp2_with fail
                refine (callsIn_wide.2 (mixed_calls str (X k) Ar cr _ hsz hx256 hxl hCr hcr)).mono ?_
                rintro e z3 ⟨a, b, rfl, hb3, m1, m2, m3⟩
                have hB3 := hB2.below hb3
                clear hcell hCr
                cases a with
                | true =>
                  gi_wp2
                  go_roundw
                  case rel => exact ⟨k + 1, parts, o + 1, by omega, rfl, by go_num, hB3, hG2, by rcases hparts with h | ⟨h, h2⟩; exact .inl h; exact .inr ⟨h, by omega⟩⟩
                  case measure => simp [intOf]; omega
                | false =>
                  have hn := m1 rfl
                  rcases hlw with hlw | ⟨hT, hM⟩
                  · exact absurd hlw hn
                  have hb := m3 hM rfl
                  subst hb
                  obtain rfl : parts = 0 := by omega
                  gi_wp2
                  go_roundw
                  case rel => exact ⟨k + 1, 1, o + 1, by omega, rfl, by go_num, hB3, hG2, .inr ⟨rfl, by omega⟩⟩
                  case measure => simp [intOf]; omega
              · obtain rfl : k = 8 := by omega
                have hb := hB.base
                rcases hparts with rfl | ⟨rfl, _⟩
                · gi_wp2
                  exact ⟨rfl, _, results_tmp rfl _ _ _, rfl, hb⟩
                · gi_wp2
                  exact ⟨rfl, _, results_tmp rfl _ _ _, rfl, hb⟩
          ·
            have hle : ¬ (ch.length : Int) ≤ 100 := by omega
            have hle2 : (100 : Int) < ch.length := by omega
            have hCt : Kd.C (Kd.int .u8) w Ac (ch.take 100).length (ch.take 100) := Kd.C_take hCc (by omega)
            have hl100 : (ch.take 100).length = 100 := by rw [List.length_take]; omega
            gi_wp2_with fail
            have qb := both_boot (c0 := cc) hB hG (by omega) (Kd.C_below hCt hB.base) (by rw [hl100]; omega) (fun y hy => hby y (List.mem_of_mem_take hy))
            rw [hl100] at qb
            refine (callsIn_wide.2 qb).mono ?_
            clear qb
            rintro e z1 ⟨rfl, hB1⟩
            have hG1 := hG.boot (ch.take 100)
            have hlaw : ∀ k : Nat, k < 8 → (rdOf ByteArray.empty (s.boot (ch.take 100)).held (k : Int) ∈ mayS s k ∨ (tornSector s.pend (fateRead (ch.take 100) s.pend.length).2.1 = (k : Int) ∧ Mixed (rdOf ByteArray.empty (s.boot (ch.take 100)).held (k : Int)) (mayS s k))) := fun k hk => boot_may s (ch.take 100) (fun y hy => hby y (List.mem_of_mem_take hy)) hG.all (fun x hx => (hG.pok x hx).2) (by have := hG.pl; omega) k (by rw [hG.len]; omega)
            have hX256 : ∀ k : Nat, k < 8 → ∀ x ∈ mayS s k, x.size = 256 := fun k hk => mayS_256 hG (by omega)
            have hXl : ∀ k : Nat, (mayS s k).length ≤ 1000 := fun k => by have := mayS_length s k; have := hG.pl; omega
            have hoff : (s.boot (ch.take 100)).off = false := rfl
            have hfu1 : (s.boot (ch.take 100)).fuse = -1 := rfl
            have hpe : (s.boot (ch.take 100)).pend = [] := rfl
            have hlen : (s.boot (ch.take 100)).held.length = 64 := hG1.len
            have h256 : ∀ k : Nat, k < 8 → (rdOf ByteArray.empty (s.boot (ch.take 100)).held (k : Int)).size = 256 := fun k hk => by
              rw [rdOf_at _ k (by rw [hlen]; omega)]
              exact hG1.all _ (List.getElem_mem _)
            generalize tornSector s.pend (fateRead (ch.take 100) s.pend.length).2.1 = T at *
            generalize s.boot (ch.take 100) = sb at *
            generalize mayS s = X at *
            obtain ⟨held, pend, off, fuse, ops⟩ := sb
            dsimp only at hoff hfu1 hpe hlen h256 hlaw
            subst hoff hfu1 hpe
            clear hB hG hA hL
            gi_wp2_with fail
            refine (callsIn_wide.2 (both_off hB1)).mono ?_
            rintro e w' ⟨rfl, rfl⟩
            gi_wp2_with fail
            refine (callsIn_wide.2 (both_pending hB1)).mono ?_
            rintro e w' ⟨rfl, rfl⟩
            gi_wp2_with fail
            gi_loopw [16, 17] (fun u v wv => ∃ (k parts : Nat) (o : Int), k ≤ 8 ∧ u = .int .i64 (parts : Int) ∧ v = .int .i64 (k : Int) ∧ Both 8 w wv d g8 ⟨held, [], false, -1, o⟩ X ∧ Good ⟨held, [], false, -1, o⟩ 64 (200 + k) ∧ (parts = 0 ∨ (parts = 1 ∧ T < k)))
              (fun _ v _ => 8 - (intOf v).toNat)
            case atStart => exact ⟨0, 0, ops, Nat.zero_le _, rfl, rfl, hB1, hG1.more (by omega), .inl rfl⟩
            case round =>
              clear hB1 hG1
              obtain ⟨k, parts, o, hk, rfl, rfl, hB, hG, hparts⟩ := hrel
              rcases Nat.lt_or_ge k 8 with hkl | hkl
              · have hkl' : (k : Int) < 8 := by omega
                have hk0 : 0 ≤ (k : Int) := by omega
                have hq : (DS.mk held [] false (-1) o).read (k : Int) = (rdOf ByteArray.empty held (k : Int), 0, ⟨held, [], false, -1, o + 1⟩) := read_go (thereB_iff.2 ⟨hk0, by omega⟩) (by decide)
                have hG2 := hG.read (k : Int)
                have q := both_read hB hG (by omega) (i := (k : Int)) (wf_nat (by omega))
                rw [hq] at q hG2
                dsimp only at hG2
                clear hq
                have hsz := h256 k hkl
                have hlw := hlaw k hkl
                have hx256 := hX256 k hkl
                have hxl := hXl k
                generalize rdOf ByteArray.empty held (k : Int) = str at *
                have hsz' : (str.size : Int) = 256 := by omega
                gi_wp2_with fail
                refine (callsIn_wide.2 q).mono ?_
                clear q
                rintro e z2 ⟨rfl, hB2⟩
                obtain ⟨Ar, cr, hcell, hcr, hCr⟩ := both_read_row hB2 hkl
                clear hB hG
                gi_wp2_with fail
                refine (callsIn_wide.2 (mixed_calls str (X k) Ar cr _ hsz hx256 hxl hCr hcr)).mono ?_
                rintro e z3 ⟨a, b, rfl, hb3, m1, m2, m3⟩
                have hB3 := hB2.below hb3
                clear hcell hCr
                cases a with
                | true =>
                  gi_wp2
                  go_roundw
                  case rel => exact ⟨k + 1, parts, o + 1, by omega, rfl, by go_num, hB3, hG2, by rcases hparts with h | ⟨h, h2⟩; exact .inl h; exact .inr ⟨h, by omega⟩⟩
                  case measure => simp [intOf]; omega
                | false =>
                  have hn := m1 rfl
                  rcases hlw with hlw | ⟨hT, hM⟩
                  · exact absurd hlw hn
                  have hb := m3 hM rfl
                  subst hb
                  obtain rfl : parts = 0 := by omega
                  gi_wp2
                  go_roundw
                  case rel => exact ⟨k + 1, 1, o + 1, by omega, rfl, by go_num, hB3, hG2, .inr ⟨rfl, by omega⟩⟩
                  case measure => simp [intOf]; omega
              · obtain rfl : k = 8 := by omega
                have hb := hB.base
                rcases hparts with rfl | ⟨rfl, _⟩
                · gi_wp2
                  exact ⟨rfl, _, results_tmp rfl _ _ _, rfl, hb⟩
                · gi_wp2
                  exact ⟨rfl, _, results_tmp rfl _ _ _, rfl, hb⟩
        · subst hil
          rcases (by omega : ch.length ≤ 100 ∨ 100 < ch.length) with hch | hch
          ·
            have hle : (ch.length : Int) ≤ 100 := by omega
            gi_wp2_with fail
            have qb := both_boot (c0 := cc) hB hG (by omega) (Kd.C_below hCc hB.base) hlc hby
            refine (callsIn_wide.2 qb).mono ?_
            clear qb
            rintro e z1 ⟨rfl, hB1⟩
            have hG1 := hG.boot ch
            have hlaw : ∀ k : Nat, k < 8 → (rdOf ByteArray.empty (s.boot ch).held (k : Int) ∈ mayS s k ∨ (tornSector s.pend (fateRead ch s.pend.length).2.1 = (k : Int) ∧ Mixed (rdOf ByteArray.empty (s.boot ch).held (k : Int)) (mayS s k))) := fun k hk => boot_may s ch hby hG.all (fun x hx => (hG.pok x hx).2) (by have := hG.pl; omega) k (by rw [hG.len]; omega)
            have hX256 : ∀ k : Nat, k < 8 → ∀ x ∈ mayS s k, x.size = 256 := fun k hk => mayS_256 hG (by omega)
            have hXl : ∀ k : Nat, (mayS s k).length ≤ 1000 := fun k => by have := mayS_length s k; have := hG.pl; omega
            have hoff : (s.boot ch).off = false := rfl
            have hfu1 : (s.boot ch).fuse = -1 := rfl
            have hpe : (s.boot ch).pend = [] := rfl
            have hlen : (s.boot ch).held.length = 64 := hG1.len
            have h256 : ∀ k : Nat, k < 8 → (rdOf ByteArray.empty (s.boot ch).held (k : Int)).size = 256 := fun k hk => by
              rw [rdOf_at _ k (by rw [hlen]; omega)]
              exact hG1.all _ (List.getElem_mem _)
            generalize tornSector s.pend (fateRead ch s.pend.length).2.1 = T at *
            generalize s.boot ch = sb at *
            generalize mayS s = X at *
            obtain ⟨held, pend, off, fuse, ops⟩ := sb
            dsimp only at hoff hfu1 hpe hlen h256 hlaw
            subst hoff hfu1 hpe
            clear hB hG hA hL
            gi_wp2_with fail
            refine (callsIn_wide.2 (both_off hB1)).mono ?_
            rintro e w' ⟨rfl, rfl⟩
            gi_wp2_with fail
            refine (callsIn_wide.2 (both_pending hB1)).mono ?_
            rintro e w' ⟨rfl, rfl⟩
            gi_wp2_with fail
            gi_loopw [16, 17] (fun u v wv => ∃ (k parts : Nat) (o : Int), k ≤ 8 ∧ u = .int .i64 (parts : Int) ∧ v = .int .i64 (k : Int) ∧ Both 8 w wv d g8 ⟨held, [], false, -1, o⟩ X ∧ Good ⟨held, [], false, -1, o⟩ 64 (200 + k) ∧ (parts = 0 ∨ (parts = 1 ∧ T < k)))
              (fun _ v _ => 8 - (intOf v).toNat)
            case atStart => exact ⟨0, 0, ops, Nat.zero_le _, rfl, rfl, hB1, hG1.more (by omega), .inl rfl⟩
            case round =>
              clear hB1 hG1
              obtain ⟨k, parts, o, hk, rfl, rfl, hB, hG, hparts⟩ := hrel
              rcases Nat.lt_or_ge k 8 with hkl | hkl
              · have hkl' : (k : Int) < 8 := by omega
                have hk0 : 0 ≤ (k : Int) := by omega
                have hq : (DS.mk held [] false (-1) o).read (k : Int) = (rdOf ByteArray.empty held (k : Int), 0, ⟨held, [], false, -1, o + 1⟩) := read_go (thereB_iff.2 ⟨hk0, by omega⟩) (by decide)
                have hG2 := hG.read (k : Int)
                have q := both_read hB hG (by omega) (i := (k : Int)) (wf_nat (by omega))
                rw [hq] at q hG2
                dsimp only at hG2
                clear hq
                have hsz := h256 k hkl
                have hlw := hlaw k hkl
                have hx256 := hX256 k hkl
                have hxl := hXl k
                generalize rdOf ByteArray.empty held (k : Int) = str at *
                have hsz' : (str.size : Int) = 256 := by omega
                gi_wp2_with fail
                refine (callsIn_wide.2 q).mono ?_
                clear q
                rintro e z2 ⟨rfl, hB2⟩
                obtain ⟨Ar, cr, hcell, hcr, hCr⟩ := both_read_row hB2 hkl
                clear hB hG
                gi_wp2_with fail
                refine (callsIn_wide.2 (mixed_calls str (X k) Ar cr _ hsz hx256 hxl hCr hcr)).mono ?_
                rintro e z3 ⟨a, b, rfl, hb3, m1, m2, m3⟩
                have hB3 := hB2.below hb3
                clear hcell hCr
                cases a with
                | true =>
                  gi_wp2
                  go_roundw
                  case rel => exact ⟨k + 1, parts, o + 1, by omega, rfl, by go_num, hB3, hG2, by rcases hparts with h | ⟨h, h2⟩; exact .inl h; exact .inr ⟨h, by omega⟩⟩
                  case measure => simp [intOf]; omega
                | false =>
                  have hn := m1 rfl
                  rcases hlw with hlw | ⟨hT, hM⟩
                  · exact absurd hlw hn
                  have hb := m3 hM rfl
                  subst hb
                  obtain rfl : parts = 0 := by omega
                  gi_wp2
                  go_roundw
                  case rel => exact ⟨k + 1, 1, o + 1, by omega, rfl, by go_num, hB3, hG2, .inr ⟨rfl, by omega⟩⟩
                  case measure => simp [intOf]; omega
              · obtain rfl : k = 8 := by omega
                have hb := hB.base
                rcases hparts with rfl | ⟨rfl, _⟩
                · gi_wp2
                  exact ⟨rfl, _, results_tmp rfl _ _ _, rfl, hb⟩
                · gi_wp2
                  exact ⟨rfl, _, results_tmp rfl _ _ _, rfl, hb⟩
          ·
            have hle : ¬ (ch.length : Int) ≤ 100 := by omega
            have hle2 : (100 : Int) < ch.length := by omega
            have hCt : Kd.C (Kd.int .u8) w Ac (ch.take 100).length (ch.take 100) := Kd.C_take hCc (by omega)
            have hl100 : (ch.take 100).length = 100 := by rw [List.length_take]; omega
            gi_wp2_with fail
            have qb := both_boot (c0 := cc) hB hG (by omega) (Kd.C_below hCt hB.base) (by rw [hl100]; omega) (fun y hy => hby y (List.mem_of_mem_take hy))
            rw [hl100] at qb
            refine (callsIn_wide.2 qb).mono ?_
            clear qb
            rintro e z1 ⟨rfl, hB1⟩
            have hG1 := hG.boot (ch.take 100)
            have hlaw : ∀ k : Nat, k < 8 → (rdOf ByteArray.empty (s.boot (ch.take 100)).held (k : Int) ∈ mayS s k ∨ (tornSector s.pend (fateRead (ch.take 100) s.pend.length).2.1 = (k : Int) ∧ Mixed (rdOf ByteArray.empty (s.boot (ch.take 100)).held (k : Int)) (mayS s k))) := fun k hk => boot_may s (ch.take 100) (fun y hy => hby y (List.mem_of_mem_take hy)) hG.all (fun x hx => (hG.pok x hx).2) (by have := hG.pl; omega) k (by rw [hG.len]; omega)
            have hX256 : ∀ k : Nat, k < 8 → ∀ x ∈ mayS s k, x.size = 256 := fun k hk => mayS_256 hG (by omega)
            have hXl : ∀ k : Nat, (mayS s k).length ≤ 1000 := fun k => by have := mayS_length s k; have := hG.pl; omega
            have hoff : (s.boot (ch.take 100)).off = false := rfl
            have hfu1 : (s.boot (ch.take 100)).fuse = -1 := rfl
            have hpe : (s.boot (ch.take 100)).pend = [] := rfl
            have hlen : (s.boot (ch.take 100)).held.length = 64 := hG1.len
            have h256 : ∀ k : Nat, k < 8 → (rdOf ByteArray.empty (s.boot (ch.take 100)).held (k : Int)).size = 256 := fun k hk => by
              rw [rdOf_at _ k (by rw [hlen]; omega)]
              exact hG1.all _ (List.getElem_mem _)
            generalize tornSector s.pend (fateRead (ch.take 100) s.pend.length).2.1 = T at *
            generalize s.boot (ch.take 100) = sb at *
            generalize mayS s = X at *
            obtain ⟨held, pend, off, fuse, ops⟩ := sb
            dsimp only at hoff hfu1 hpe hlen h256 hlaw
            subst hoff hfu1 hpe
            clear hB hG hA hL
            gi_wp2_with fail
            refine (callsIn_wide.2 (both_off hB1)).mono ?_
            rintro e w' ⟨rfl, rfl⟩
            gi_wp2_with fail
            refine (callsIn_wide.2 (both_pending hB1)).mono ?_
            rintro e w' ⟨rfl, rfl⟩
            gi_wp2_with fail
            gi_loopw [16, 17] (fun u v wv => ∃ (k parts : Nat) (o : Int), k ≤ 8 ∧ u = .int .i64 (parts : Int) ∧ v = .int .i64 (k : Int) ∧ Both 8 w wv d g8 ⟨held, [], false, -1, o⟩ X ∧ Good ⟨held, [], false, -1, o⟩ 64 (200 + k) ∧ (parts = 0 ∨ (parts = 1 ∧ T < k)))
              (fun _ v _ => 8 - (intOf v).toNat)
            case atStart => exact ⟨0, 0, ops, Nat.zero_le _, rfl, rfl, hB1, hG1.more (by omega), .inl rfl⟩
            case round =>
              clear hB1 hG1
              obtain ⟨k, parts, o, hk, rfl, rfl, hB, hG, hparts⟩ := hrel
              rcases Nat.lt_or_ge k 8 with hkl | hkl
              · have hkl' : (k : Int) < 8 := by omega
                have hk0 : 0 ≤ (k : Int) := by omega
                have hq : (DS.mk held [] false (-1) o).read (k : Int) = (rdOf ByteArray.empty held (k : Int), 0, ⟨held, [], false, -1, o + 1⟩) := read_go (thereB_iff.2 ⟨hk0, by omega⟩) (by decide)
                have hG2 := hG.read (k : Int)
                have q := both_read hB hG (by omega) (i := (k : Int)) (wf_nat (by omega))
                rw [hq] at q hG2
                dsimp only at hG2
                clear hq
                have hsz := h256 k hkl
                have hlw := hlaw k hkl
                have hx256 := hX256 k hkl
                have hxl := hXl k
                generalize rdOf ByteArray.empty held (k : Int) = str at *
                have hsz' : (str.size : Int) = 256 := by omega
                gi_wp2_with fail
                refine (callsIn_wide.2 q).mono ?_
                clear q
                rintro e z2 ⟨rfl, hB2⟩
                obtain ⟨Ar, cr, hcell, hcr, hCr⟩ := both_read_row hB2 hkl
                clear hB hG
                gi_wp2_with fail
                refine (callsIn_wide.2 (mixed_calls str (X k) Ar cr _ hsz hx256 hxl hCr hcr)).mono ?_
                rintro e z3 ⟨a, b, rfl, hb3, m1, m2, m3⟩
                have hB3 := hB2.below hb3
                clear hcell hCr
                cases a with
                | true =>
                  gi_wp2
                  go_roundw
                  case rel => exact ⟨k + 1, parts, o + 1, by omega, rfl, by go_num, hB3, hG2, by rcases hparts with h | ⟨h, h2⟩; exact .inl h; exact .inr ⟨h, by omega⟩⟩
                  case measure => simp [intOf]; omega
                | false =>
                  have hn := m1 rfl
                  rcases hlw with hlw | ⟨hT, hM⟩
                  · exact absurd hlw hn
                  have hb := m3 hM rfl
                  subst hb
                  obtain rfl : parts = 0 := by omega
                  gi_wp2
                  go_roundw
                  case rel => exact ⟨k + 1, 1, o + 1, by omega, rfl, by go_num, hB3, hG2, .inr ⟨rfl, by omega⟩⟩
                  case measure => simp [intOf]; omega
              · obtain rfl : k = 8 := by omega
                have hb := hB.base
                rcases hparts with rfl | ⟨rfl, _⟩
                · gi_wp2
                  exact ⟨rfl, _, results_tmp rfl _ _ _, rfl, hb⟩
                · gi_wp2
                  exact ⟨rfl, _, results_tmp rfl _ _ _, rfl, hb⟩
end Go.Proofs.Ytknibnbepmdapaa
