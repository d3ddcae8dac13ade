/-
Small plain facts for fate.Read: bits of bytes, slices from a place, blocks read as lists.
-/
import Derived.Test.YtknibnbepmdapaaFc
namespace Go.Proofs.Ytknibnbepmdapaa
open Go.RowKit Go.Shelf Go.Proofs.YtknibnbepmdapaaW.PrintWords

theorem run_bytes_from (A : Option Addr) (len c m : Nat) (hm : m ≤ len) (w : World) :
    (Instr.sliceAt 25 (.slice A len c) (some (.int .i64 (m : Int))) none none).run Try.prog w = .ok (.slice (if c = m then A else A.map (·.add (m * 1))) (len - m) (c - m)) w := by
  have h1 : (m : Int) ≤ len := by omega
  by_cases hcm : c = m
  · simp [go_sem, h1, hcm, Try.underlying25]
  · simp [go_sem, h1, hcm, Try.underlying25]

theorem ofInt64 (n : Nat) (h : n < 2 ^ 64) : (BitVec.ofInt 64 (n : Int)).toNat = n := by
  rw [BitVec.toNat_ofInt]
  have : ((n : Int) % ((2 ^ 64 : Nat) : Int)) = n := Int.emod_eq_of_lt (by omega) (by omega)
  rw [this]
  rfl

theorem wrap_i64_nat (n : Nat) (h : n < 2 ^ 63) : IntKind.i64.wrap (n : Int) = (n : Int) := by
  have e : (n : Int) % 2 ^ 64 = n := Int.emod_eq_of_lt (by omega) (by omega)
  simp only [IntKind.wrap, IntKind.bits, IntKind.signed, e]
  rw [if_neg]
  simp
  omega

/-- Two bytes, the higher first. -/
theorem or16 (a b : Int) (ha : 0 ≤ a ∧ a < 256) (hb : 0 ≤ b ∧ b < 256) : bits .or .i64 (a * 256) b = a * 256 + b := by
  obtain ⟨A, rfl⟩ := Int.eq_ofNat_of_zero_le ha.1
  obtain ⟨B, rfl⟩ := Int.eq_ofNat_of_zero_le hb.1
  have e : ((A : Int) * 256) = ((A * 256 : Nat) : Int) := by simp
  rw [e]
  show IntKind.i64.wrap ((BitVec.ofInt 64 ((A * 256 : Nat) : Int) ||| BitVec.ofInt 64 (B : Int)).toNat : Int) = _
  rw [BitVec.toNat_or, ofInt64 _ (by omega), ofInt64 _ (by omega)]
  have h := Nat.shiftLeft_add_eq_or_of_lt (a := A) (show B < 2 ^ 8 by omega)
  rw [Nat.shiftLeft_eq] at h
  rw [show A * 256 = A * 2 ^ 8 by rfl, ← h, wrap_i64_nat _ (by omega)]
  omega

theorem Blk.reads {α : Type} {enc : α → Value} {h1 : ∀ x, (enc x).oneCell' = true} {w : World} {g : Nat} {e : TypeId} {xs : List α} (h : Blk w g e (encV enc xs)) (hm : xs.length ≤ maxLen) :
    (Kd.scalar enc h1).C w (some ⟨g, 0, none⟩) xs.length xs :=
  (Kd.R_reads' (ok := fun _ => True) (Kd.R_of_own (h.owns (base := 0) (Nat.zero_le _) hm) (fun _ _ => trivial))).2.2

theorem byte_at {w : World} {A : Option Addr} {n : Nat} {l : List Int} (h : Kd.C (Kd.int .u8) w A n l) {k : Nat} (hk : k < n) :
    ∃ ad, A = some ad ∧ ad.block < w.heap.size ∧ w.cell? (ad.add k) = some (.int .u8 (l.getD k 0)) := by
  obtain ⟨ad, c, hA, hl, hK, hcell⟩ := Kd.C_get h 0 (k : Int) (by omega) (by omega)
  have hcv : c = [.int .u8 (l.getD k 0)] := by have := hK; rw [Int.toNat_natCast] at this; exact this
  subst hcv
  have h0 := hcell 0 _ rfl
  rw [Int.toNat_natCast, show k * (Kd.int .u8).sz + 0 = k from by show k * 1 + 0 = k; omega] at h0
  exact ⟨ad, hA, by have := World.block_lt_of_cell? _ _ h0; rwa [add_block] at this, h0⟩

/-- A result that lies whole in a block. -/
theorem results_blk {fn : Func} {p : Tmp} {ty : TypeId} {P : Program} {w : World} {g : Nat} {cs : Array Value} {tmps : Array Value} {fs : Array Field} (h : fn.results = #[.cell p ty])
    (hp : tmps.getD p undef = .pointer (some ⟨g, 0, none⟩)) (hb : Blk w g ty cs) (hu : P.underlying ty = some (.struct fs)) (hi : (P.info? ty).map (·.size) = some cs.size) :
    (results fn tmps).run P w = .ok (.agg cs) w := by
  have := run_loadVar_row (P := P) w g ty ty cs (0, 0) (.struct fs) hb hu rfl hi
  rw [Array.getD_eq_getD_getElem?] at hp
  simp only [results, h]
  simp [hp, asAddr, this]

/-- Which write is torn: the one ahead of which so many came. -/
def tornOf {N : Nat} (t : Int) (xs : List (Fin N × Fin N)) : Int := xs.foldl (fun r x => if (x.1.val : Int) = t then (x.2.val : Int) else r) (-1)

theorem tornOf_snoc {N : Nat} (t : Int) (xs : List (Fin N × Fin N)) (x : Fin N × Fin N) : tornOf t (xs ++ [x]) = if (x.1.val : Int) = t then (x.2.val : Int) else tornOf t xs := by simp [tornOf]

end Go.Proofs.Ytknibnbepmdapaa

/-
fate.Read: its contract.
-/
namespace Go.Proofs.Ytknibnbepmdapaa
open Go.RowKit Go.Shelf Go.Proofs.YtknibnbepmdapaaW.PrintWords
attribute [local go_sem] Oper.semAt_some

theorem info4 : (Try.prog.info? 4).map (fun i => (i.zero, i.size, i.bytes)) = some (some (.bool false), 1, 1) := by kernel_rfl

theorem make_bools (n : Nat) (h : n ≤ 281474976710656) (w : World) :
    (Instr.makeSlice 22 (.int .i64 (n : Int)) (.int .i64 (n : Int))).run Try.prog w = .ok (.slice (some ⟨w.heap.size, 0, none⟩) n n) (w.alloc (.cells (encV Value.bool (List.replicate n false)) 4)) := by
  rw [run_make_row' (P := Try.prog) 22 4 (.bool false) 1 Try.underlying22 info4 rfl .i64 .i64 n (by omega) (by omega) w, madeCells_one, encV_replicate]

/-- Did the write i come, as choices tell? -/
def bitOf (cs : List Int) (i : Nat) : Bool := decide (i / 8 < cs.length) && (bits .and .u8 (cs.getD (i / 8) 0) (maskI (i % 8)) != 0)

def readBits (cs : List Int) (n k : Nat) : List Bool := (List.range n).map fun i => decide (i < k) && bitOf cs i

theorem readBits_zero (cs : List Int) (n : Nat) : readBits cs n 0 = List.replicate n false := by
  apply List.ext_getElem
  · simp [readBits]
  · intro i h1 h2; simp [readBits]

theorem readBits_length (cs : List Int) (n k : Nat) : (readBits cs n k).length = n := by simp [readBits]

theorem readBits_yes (cs : List Int) {n k : Nat} (h : bitOf cs k = true) : (readBits cs n k).set k true = readBits cs n (k + 1) := by
  apply List.ext_getElem
  · simp [readBits]
  · intro i h1 h2
    simp only [readBits, List.getElem_set, List.getElem_map, List.getElem_range]
    by_cases e : k = i
    · subst e; simp [h]
    · rw [if_neg e, show decide (i < k) = decide (i < k + 1) by congr 1; apply propext; omega]

theorem readBits_no (cs : List Int) {n k : Nat} (h : bitOf cs k = false) : readBits cs n k = readBits cs n (k + 1) := by
  apply List.ext_getElem
  · simp [readBits]
  · intro i h1 h2
    simp only [readBits, List.getElem_map, List.getElem_range]
    by_cases e : k = i
    · subst e; simp [h]
    · rw [show decide (i < k) = decide (i < k + 1) by congr 1; apply propext; omega]

def manyOf (cs : List Int) (k : Nat) : Nat := (List.range k).countP (bitOf cs)

theorem manyOf_succ (cs : List Int) (k : Nat) : manyOf cs (k + 1) = manyOf cs k + if bitOf cs k then 1 else 0 := by
  simp [manyOf, List.range_succ, List.countP_append, List.countP_cons]

theorem manyOf_le (cs : List Int) (k : Nat) : manyOf cs k ≤ k := by
  unfold manyOf
  have := List.countP_le_length (p := bitOf cs) (l := List.range k)
  simpa using this

/-- What choices tell. -/
def fateReadN (cs : List Int) (N : Nat) : List Bool × Int × Int :=
  if (cs.drop ((N + 7) / 8)).length < 3 ∨ 127 < (cs.drop ((N + 7) / 8)).getD 0 0 ∨ manyOf cs N = 0 then (readBits cs N N, -1, 0)
  else (readBits cs N N, tornOf ((cs.drop ((N + 7) / 8)).getD 0 0 % (manyOf cs N : Int)) (cameL (readBits cs N N) (readBits cs N N).length), ((cs.drop ((N + 7) / 8)).getD 1 0 * 256 + (cs.drop ((N + 7) / 8)).getD 2 0) % 257)

def fateRead (cs : List Int) (n : Int) : List Bool × Int × Int := fateReadN cs (min (max n 0) 4096).toNat

def ReadPost (w : World) (r : List Bool × Int × Int) (e : Ending) (w' : World) : Prop :=
  ∃ v, e = .returned (.agg #[v, .int .i64 r.2.1, .int .i64 r.2.2]) ∧ Kd.R Kd.bool 4 w' w.heap.size (fun _ => True) v r.1 ∧ Below w.heap.size w w'

set_option maxRecDepth 100000 in
set_option maxHeartbeats 1000000 in
theorem read_in (A : Option Addr) (c0 : Nat) (cs : List Int) (n : Int) (w : World) (hr : Kd.C (Kd.int .u8) w A cs.length cs) (hc0 : cs.length ≤ c0) (hbyte : ∀ x ∈ cs, 0 ≤ x ∧ x < 256) :
    CallsIn Fence.wide 9 Try.prog 22 #[.slice A cs.length c0, .int .i64 n] w (ReadPost w (fateRead cs n)) := by
  have hF : ∀ f, Fence.wide.fn f := fun _ => trivial
  have hmax := Kd.C_max hr
  refine callsIn_of_wp_marks Try.func22 rfl (hF _) ?_ rfl
  simp only [Try.ntmps22, List.size_toArray, List.length_cons, List.length_nil, Nat.reduceAdd, Nat.reduceSub, Array.replicate_succ, Array.replicate_zero, List.push_toArray, List.append_toArray, List.nil_append, List.cons_append]
  gi_wp2_with fail
  refine (callsIn_wide.2 (limited_any n _)).mono ?_
  rintro e w1 ⟨rfl, rfl⟩
  obtain ⟨N, hN⟩ : ∃ N : Nat, min (max n 0) 4096 = (N : Int) := ⟨(min (max n 0) 4096).toNat, by omega⟩
  have hN' : N ≤ 4096 := by omega
  rw [hN]
  have hmk := fun w => make_bools N (by omega) w
  gi_wp2
  gi_loopw [19] (fun s wr => ∃ k : Nat, k ≤ N ∧ s = .int .i64 k ∧ Blk wr (w.heap.size + 1) 4 (encV Value.bool (readBits cs N k)) ∧ Blk wr (w.heap.size + 1 + 1) 24 #[.slice (some ⟨w.heap.size + 1, 0, none⟩) N N, .int .i64 (-1), .int .i64 0] ∧ Blk wr (w.heap.size + 1 + 1 + 1) 3 #[.int .i64 (manyOf cs k)] ∧ Blk wr w.heap.size 24 #[.slice none 0 0, .int .i64 0, .int .i64 0] ∧ Below w.heap.size w wr)
    (fun s _ => N - (intOf s).toNat)
  case atStart =>
    refine ⟨0, Nat.zero_le _, rfl, ?_, ?_, ?_, ?_, below_alloc (below_alloc (below_alloc (below_alloc (Below.refl _ _) _) _) _) _⟩
    · rw [readBits_zero]; have := (((Blk.new (w.alloc (.cells #[.slice none 0 0, .int .i64 0, .int .i64 0] 24)) 4 (encV Value.bool (List.replicate N false))).alloc (.cells #[.slice (some ⟨w.heap.size + 1, 0, none⟩) N N, .int .i64 (-1), .int .i64 0] 24)).alloc (.cells #[.int .i64 0] 3)); simpa using this
    · have := ((Blk.new ((w.alloc (.cells #[.slice none 0 0, .int .i64 0, .int .i64 0] 24)).alloc (.cells (encV Value.bool (List.replicate N false)) 4)) 24 #[.slice (some ⟨w.heap.size + 1, 0, none⟩) N N, .int .i64 (-1), .int .i64 0])).alloc (.cells #[.int .i64 0] 3); simpa using this
    · change Blk _ _ 3 #[.int .i64 0]
      have := Blk.new (((w.alloc (.cells #[.slice none 0 0, .int .i64 0, .int .i64 0] 24)).alloc (.cells (encV Value.bool (List.replicate N false)) 4)).alloc (.cells #[.slice (some ⟨w.heap.size + 1, 0, none⟩) N N, .int .i64 (-1), .int .i64 0] 24)) 3 #[.int .i64 0]; simpa using this
    · exact (((Blk.new w 24 _).alloc _).alloc _).alloc _
  case round =>
    obtain ⟨k, hk, rfl, j1, j2, j3, j0, hbW⟩ := hrel
    have hmle := manyOf_le cs k
    by_cases hlt : k < N
    · by_cases h8 : k / 8 < cs.length
      · obtain ⟨ad, rfl, hab, hcell⟩ := byte_at hr h8
        have h8' : (k : Int) / 8 < cs.length := by omega
        have hcx : wr.cell? (ad.add (k / 8)) = some (.int .u8 (cs.getD (k / 8) 0)) := (hbW.cell (p := ad.add (k / 8)) (by rw [add_block]; exact hab)).trans hcell
        obtain ⟨v, hv⟩ : ∃ v, bits .and .u8 (cs.getD (k / 8) 0) (maskI (k % 8)) = v := ⟨_, rfl⟩
        have hbo : bitOf cs k = (v != 0) := by unfold bitOf; rw [hv]; simp [h8]
        have hmi : ∀ w, (Instr.index 82 masksV (.int .i64 ((k : Int) % 8))).run Try.prog w = .ok (.int .u8 (maskI (k % 8))) w := fun w => by
          rw [← masks_index (k % 8) (by omega) w]; rfl
        generalize hgx : cs.getD (k / 8) 0 = cx at *
        clear hgx
        cases hv0 : v != 0 with
        | true =>
          have hbit : Hid (bitOf cs k = true) := Lib.hid (hbo.trans hv0)
          clear hbo
          gi_wp2_with (gi_at_call 48; refine (callsIn_wide.2 (masks_any _)).mono ?_; rintro e W1 ⟨rfl, hb1⟩)
          refine wpIn_region_phases 18 [.int .i64 ((k : Int) / 8), .slice (some ad) cs.length c0, .int .i64 cs.length, .bool true, .bool true, .slice (some ad) cs.length c0, .int .i64 ((k : Int) / 8), .pointer (some (ad.add (k / 8))), .int .u8 (cx), masksV, .int .i64 k, masksV, .int .i64 8, .int .i64 ((k : Int) % 8), .int .u8 (maskI (k % 8)), .int .u8 v, .bool true, .bool true]
            (fun W' => Below W1.heap.size W1 W') (by kernel_rfl) (by kernel_rfl) rfl (Below.refl _ _).drew ?step ?tail
          case step =>
            intro W' hb
            have f1 : W'.cell? (ad.add (k / 8)) = some (.int .u8 (cx)) := ((hb1.trans (hb.mono hb1.size)).cell (p := ad.add (k / 8)) (by rw [add_block]; have := hbW.size; omega)).trans hcx
            have hb := Lib.hid hb
            simp only [List.take_succ_cons, List.take_zero, AllIn, fillT, List.setIfInBounds_toArray, List.set_cons_zero, List.set_cons_succ]
            refine ⟨?_, ?_, ?_, ?_, ?_, ?_, ?_, ?_, ?_, ?_, ?_, ?_, ?_, ?_, ?_, ?_, ?_, ?_, trivial⟩
            all_goals
              gi_wp2_with (gi_at_call 48; refine (callsIn_wide.2 (masks_any _)).mono ?_; rintro e w' ⟨rfl, hbm⟩)
              first | exact ⟨rfl, hb.out⟩ | exact ⟨rfl, below_step hb.out hbm⟩ | go_goals
          case tail =>
            intro W' hb
            have hbb := below_step hb1 hb
            have q1 := j1.below hbb
            have q2 := j2.below hbb
            have q3 := j3.below hbb
            have q0 := j0.below hbb
            have hbq := below_then hbW hbW.size hbb
            clear hb hb1 hbb
            simp only [List.take_succ_cons, List.take_zero, List.drop_succ_cons, List.drop_nil, fillT, List.setIfInBounds_toArray, List.set_cons_zero, List.set_cons_succ]
            have f1 : W'.cell? ⟨w.heap.size + 1 + 1, 0, none⟩ = some (.slice (some ⟨w.heap.size + 1, 0, none⟩) N N) := q2.cell 0
            have f2 : W'.cell? ⟨w.heap.size + 1, k, none⟩ = some (.bool ((readBits cs N k).getD k false)) := (q1.cell k).trans (encV_getD _ false (by rw [readBits_length]; exact hlt))
            have f3 : W'.frozen? ⟨w.heap.size + 1, k, none⟩ = false := q1.frozen k
            have f4 : W'.cell? ⟨w.heap.size + 1 + 1 + 1, 0, none⟩ = some (.int .i64 (manyOf cs k)) := q3.cell 0
            have f5 : W'.frozen? ⟨w.heap.size + 1 + 1 + 1, 0, none⟩ = false := q3.frozen 0
            gi_wp2
            go_roundw
            case rel =>
              refine ⟨k + 1, by omega, by go_num, ?_, (q2.stay (by omega) _).stay (by omega) _, ?_, (q0.stay (by omega) _).stay (by omega) _, (hbq.setCell (p := ⟨w.heap.size + 1, k, none⟩) (by show _ ≤ w.heap.size + 1; omega) _).setCell (p := ⟨w.heap.size + 1 + 1 + 1, 0, none⟩) (by show _ ≤ w.heap.size + 1 + 1 + 1; omega) _⟩
              · rw [← readBits_yes cs hbit.out, ← encV_set]; exact (q1.set k _).stay (by omega) _
              · rw [manyOf_succ, if_pos hbit.out]; exact (q3.stay (by omega) _).set 0 _
            case measure => simp [intOf]; omega
  
        | false =>
          have hbit : Hid (bitOf cs k = false) := Lib.hid (hbo.trans hv0)
          clear hbo
          gi_wp2_with (gi_at_call 48; refine (callsIn_wide.2 (masks_any _)).mono ?_; rintro e W1 ⟨rfl, hb1⟩)
          refine wpIn_region_phases 18 [.int .i64 ((k : Int) / 8), .slice (some ad) cs.length c0, .int .i64 cs.length, .bool true, .bool true, .slice (some ad) cs.length c0, .int .i64 ((k : Int) / 8), .pointer (some (ad.add (k / 8))), .int .u8 (cx), masksV, .int .i64 k, masksV, .int .i64 8, .int .i64 ((k : Int) % 8), .int .u8 (maskI (k % 8)), .int .u8 v, .bool false, .bool false]
            (fun W' => Below W1.heap.size W1 W') (by kernel_rfl) (by kernel_rfl) rfl (Below.refl _ _).drew ?step ?tail
          case step =>
            intro W' hb
            have f1 : W'.cell? (ad.add (k / 8)) = some (.int .u8 (cx)) := ((hb1.trans (hb.mono hb1.size)).cell (p := ad.add (k / 8)) (by rw [add_block]; have := hbW.size; omega)).trans hcx
            have hb := Lib.hid hb
            simp only [List.take_succ_cons, List.take_zero, AllIn, fillT, List.setIfInBounds_toArray, List.set_cons_zero, List.set_cons_succ]
            refine ⟨?_, ?_, ?_, ?_, ?_, ?_, ?_, ?_, ?_, ?_, ?_, ?_, ?_, ?_, ?_, ?_, ?_, ?_, trivial⟩
            all_goals
              gi_wp2_with (gi_at_call 48; refine (callsIn_wide.2 (masks_any _)).mono ?_; rintro e w' ⟨rfl, hbm⟩)
              first | exact ⟨rfl, hb.out⟩ | exact ⟨rfl, below_step hb.out hbm⟩ | go_goals
          case tail =>
            intro W' hb
            have hbb := below_step hb1 hb
            have q1 := j1.below hbb
            have q2 := j2.below hbb
            have q3 := j3.below hbb
            have q0 := j0.below hbb
            have hbq := below_then hbW hbW.size hbb
            clear hb hb1 hbb
            simp only [List.take_succ_cons, List.take_zero, List.drop_succ_cons, List.drop_nil, fillT, List.setIfInBounds_toArray, List.set_cons_zero, List.set_cons_succ]
            gi_wp2
            go_roundw
            case rel => exact ⟨k + 1, by omega, by go_num, by rw [← readBits_no cs hbit.out]; exact q1, q2, by rw [manyOf_succ, if_neg (by rw [hbit.out]; simp)]; exact q3, q0, hbq⟩
            case measure => simp [intOf]; omega
  
      · have hbit : Hid (bitOf cs k = false) := Lib.hid (by unfold bitOf; simp [h8])
        have h8' : decide ((k : Int) / 8 < (cs.length : Int)) = false := by rw [decide_eq_false_iff_not]; omega
        gi_wp2_with (gi_at_call 48; refine (callsIn_wide.2 (masks_any _)).mono ?_; rintro e W1 ⟨rfl, hb1⟩)
        refine wpIn_region_phases 18 [.int .i64 ((k : Int) / 8), .slice A cs.length c0, .int .i64 cs.length, .bool false, .bool false, undef, undef, undef, undef, undef, undef, undef, undef, undef, undef, undef, undef, .bool false]
          (fun W' => Below W1.heap.size W1 W') (by kernel_rfl) (by kernel_rfl) rfl (Below.refl _ _).drew ?step ?tail
        case step =>
          intro W' hb
          skip
          have hb := Lib.hid hb
          simp only [List.take_succ_cons, List.take_zero, AllIn, fillT, List.setIfInBounds_toArray, List.set_cons_zero, List.set_cons_succ]
          refine ⟨?_, ?_, ?_, ?_, ?_, ?_, ?_, ?_, ?_, ?_, ?_, ?_, ?_, ?_, ?_, ?_, ?_, ?_, trivial⟩
          all_goals
            gi_wp2_with (gi_at_call 48; refine (callsIn_wide.2 (masks_any _)).mono ?_; rintro e w' ⟨rfl, hbm⟩)
            first | exact ⟨rfl, hb.out⟩ | exact ⟨rfl, below_step hb.out hbm⟩ | go_goals
        case tail =>
          intro W' hb
          have hbb := below_step hb1 hb
          have q1 := j1.below hbb
          have q2 := j2.below hbb
          have q3 := j3.below hbb
          have q0 := j0.below hbb
          have hbq := below_then hbW hbW.size hbb
          clear hb hb1 hbb
          simp only [List.take_succ_cons, List.take_zero, List.drop_succ_cons, List.drop_nil, fillT, List.setIfInBounds_toArray, List.set_cons_zero, List.set_cons_succ]
          gi_wp2
          go_roundw
          case rel => exact ⟨k + 1, by omega, by go_num, by rw [← readBits_no cs hbit.out]; exact q1, q2, by rw [manyOf_succ, if_neg (by rw [hbit.out]; simp)]; exact q3, q0, hbq⟩
          case measure => simp [intOf]; omega

    · have hkN : k = N := by omega
      subst hkN
      have hfin : Hid (fateRead cs n = if (cs.drop ((k + 7) / 8)).length < 3 ∨ 127 < (cs.drop ((k + 7) / 8)).getD 0 0 ∨ manyOf cs k = 0 then (readBits cs k k, -1, 0)
          else (readBits cs k k, tornOf ((cs.drop ((k + 7) / 8)).getD 0 0 % (manyOf cs k : Int)) (cameL (readBits cs k k) (readBits cs k k).length), ((cs.drop ((k + 7) / 8)).getD 1 0 * 256 + (cs.drop ((k + 7) / 8)).getD 2 0) % 257)) := Lib.hid (by
        unfold fateRead
        rw [show (min (max n 0) 4096).toNat = k by omega, fateReadN])
      gi_wp2_with fail
      refine (callsIn_wide.2 (size_any _ (by omega) (by omega) _)).mono ?_
      rintro e W1 ⟨rfl, hb1⟩
      obtain ⟨nb, hnb, hnb'⟩ : ∃ nb : Nat, ((k : Int) + 7) / 8 = (nb : Int) ∧ (k + 7) / 8 = nb := ⟨(k + 7) / 8, by omega, rfl⟩
      rw [hnb] 
      rw [hnb'] at hfin
      have q1 := j1.below hb1
      have q2 := j2.below hb1
      have q3 := j3.below hb1
      have q0 := j0.below hb1
      have hbq := below_then hbW hbW.size hb1
      have hl3 := q3.lt
      have hbl := readBits_length cs k k
      have f0 : W1.cell? ⟨w.heap.size + 1 + 1, 0, none⟩ = some (.slice (some ⟨w.heap.size + 1, 0, none⟩) k k) := q2.cell 0
      have f1 : W1.cell? ⟨w.heap.size + 1 + 1, 1, none⟩ = some (.int .i64 (-1)) := q2.cell 1
      have f2 : W1.cell? ⟨w.heap.size + 1 + 1, 2, none⟩ = some (.int .i64 0) := q2.cell 2
      have f3 : W1.cell? ⟨w.heap.size + 1 + 1 + 1, 0, none⟩ = some (.int .i64 (manyOf cs k)) := q3.cell 0
      have f4 : W1.cell? ⟨w.heap.size, 0, none⟩ = some (.slice none 0 0) := q0.cell 0
      have f5 : W1.cell? ⟨w.heap.size, 1, none⟩ = some (.int .i64 0) := q0.cell 1
      have f6 : W1.cell? ⟨w.heap.size, 2, none⟩ = some (.int .i64 0) := q0.cell 2
      have f7 := q0.frozen 0
      have f8 := q0.frozen 1
      have f9 := q0.frozen 2
      have l0 : w.heap.size < W1.heap.size := by omega
      have l2 : w.heap.size + 1 + 1 < W1.heap.size := by omega
      -- the slice behind the choices of the writes
      obtain ⟨d, hd0, hd1, hd2⟩ : ∃ d : Nat, d = min nb cs.length ∧ d ≤ cs.length ∧ cs.drop d = cs.drop nb := ⟨min nb cs.length, rfl, by omega, by
        by_cases h : nb ≤ cs.length
        · rw [Nat.min_eq_left h]
        · rw [Nat.min_eq_right (by omega), List.drop_of_length_le (Nat.le_refl _), List.drop_of_length_le (by omega)]⟩
      rw [← hd2] at hfin
      obtain ⟨A', c', hsl, hCr, hcr⟩ : ∃ A' c', (∀ w, (Instr.sliceAt 25 (.slice A cs.length c0) (some (.int .i64 (d : Int))) none none).run Try.prog w = .ok (.slice A' (cs.drop d).length c') w) ∧ Kd.C (Kd.int .u8) w A' (cs.drop d).length (cs.drop d) ∧ (cs.drop d).length ≤ c' :=
        ⟨_, c0 - d, fun w => by rw [run_bytes_from A cs.length c0 d hd1 w, List.length_drop]; rfl, Kd.C_drop hr hd1 hc0, by rw [List.length_drop]; omega⟩
      have hmin : Hid (min (nb : Int) (cs.length : Int) = (d : Int)) := Lib.hid (by omega)
      have hby : ∀ x ∈ cs.drop d, 0 ≤ x ∧ x < 256 := fun x hx => hbyte x (List.mem_of_mem_drop hx)
      clear hd2 hbyte hnb hnb' hN
      obtain ⟨rest, hrest⟩ : ∃ rest, cs.drop d = rest := ⟨_, rfl⟩
      have hlenr : Hid (rest.length = cs.length - d) := Lib.hid (by rw [← hrest, List.length_drop])
      rw [hrest] at hsl hCr hcr hby hfin
      clear hrest
      have hmx := Kd.C_max hCr
      by_cases hr3 : rest.length < 3
      · have hr3' : (rest.length : Int) < 3 := by omega
        have hc : Hid (rest.length < 3 ∨ 127 < rest.getD 0 0 ∨ manyOf cs k = 0) := Lib.hid (.inl hr3)
        rcases Nat.lt_or_ge cs.length nb with hnl | hnl
        · obtain rfl : d = cs.length := by omega
          have hnl' : (cs.length : Int) < nb := by omega
          clear hd0 hd1 hr3
          gi_wp2
          have q0' := (((q0.set 0 (.slice (some ⟨w.heap.size + 1, 0, none⟩) k k)).set 1 (.int .i64 (-1))).set 2 (.int .i64 0)).alloc (.cells #[.slice A' rest.length c'] 25)
          have q1' := (((q1.stay (b := w.heap.size) (o := 0) (by omega) (.slice (some ⟨w.heap.size + 1, 0, none⟩) k k)).stay (b := w.heap.size) (o := 1) (by omega) (.int .i64 (-1))).stay (b := w.heap.size) (o := 2) (by omega) (.int .i64 0)).alloc (.cells #[.slice A' rest.length c'] 25)
          refine ⟨_, results_blk (fs := _) rfl rfl q0' Try.underlying24 (by kernel_rfl), ?_⟩
          rw [hfin.out, if_pos hc.out]
          refine ⟨.slice (some ⟨w.heap.size + 1, 0, none⟩) k k, rfl, ?_, below_alloc (((hbq.setCell (p := ⟨w.heap.size, 0, none⟩) (Nat.le_refl _) _).setCell (p := ⟨w.heap.size, 1, none⟩) (Nat.le_refl _) _).setCell (p := ⟨w.heap.size, 2, none⟩) (Nat.le_refl _) _) _⟩
          have hown := q1'.owns (base := w.heap.size) (by omega) (by rw [hbl]; unfold maxLen; omega)
          exact Kd.R_of_own (by rw [hbl] at hown ⊢; exact hown) (fun _ _ => trivial)
        · obtain rfl : d = nb := by omega
          have hnl' : (d : Int) ≤ cs.length := by omega
          clear hd0 hr3
          gi_wp2
          have q0' := (((q0.set 0 (.slice (some ⟨w.heap.size + 1, 0, none⟩) k k)).set 1 (.int .i64 (-1))).set 2 (.int .i64 0)).alloc (.cells #[.slice A' rest.length c'] 25)
          have q1' := (((q1.stay (b := w.heap.size) (o := 0) (by omega) (.slice (some ⟨w.heap.size + 1, 0, none⟩) k k)).stay (b := w.heap.size) (o := 1) (by omega) (.int .i64 (-1))).stay (b := w.heap.size) (o := 2) (by omega) (.int .i64 0)).alloc (.cells #[.slice A' rest.length c'] 25)
          refine ⟨_, results_blk (fs := _) rfl rfl q0' Try.underlying24 (by kernel_rfl), ?_⟩
          rw [hfin.out, if_pos hc.out]
          refine ⟨.slice (some ⟨w.heap.size + 1, 0, none⟩) k k, rfl, ?_, below_alloc (((hbq.setCell (p := ⟨w.heap.size, 0, none⟩) (Nat.le_refl _) _).setCell (p := ⟨w.heap.size, 1, none⟩) (Nat.le_refl _) _).setCell (p := ⟨w.heap.size, 2, none⟩) (Nat.le_refl _) _) _⟩
          have hown := q1'.owns (base := w.heap.size) (by omega) (by rw [hbl]; unfold maxLen; omega)
          exact Kd.R_of_own (by rw [hbl] at hown ⊢; exact hown) (fun _ _ => trivial)
      · have hr3' : (3 : Int) ≤ rest.length := by omega
        have hnl : nb ≤ cs.length := by
          rcases Nat.lt_or_ge cs.length nb with h | h
          · have := hlenr.out
            omega
          · exact h
        obtain rfl : d = nb := by omega
        have hnl' : (d : Int) ≤ cs.length := by omega
        clear hd0
        obtain ⟨ad, rfl, hab, hc1⟩ := byte_at hCr (show 0 < rest.length by omega)
        have c0x : W1.cell? (ad.add 0) = some (.int .u8 (rest.getD 0 0)) := (hbq.cell (p := ad.add 0) (by rw [add_block]; exact hab)).trans hc1
        have habW : ad.block < W1.heap.size := by omega
        have c0y : W1.cell? ad = some (.int .u8 (rest.getD 0 0)) := by simpa [Addr.add] using c0x
        have c0z : (W1.alloc (.cells #[.slice (some ad) rest.length c'] 25)).cell? ad = some (.int .u8 (rest.getD 0 0)) := (World.cell?_alloc_lt _ _ _ habW).trans c0y
        obtain ⟨r0, hr0⟩ : ∃ r0, rest.getD 0 0 = r0 := ⟨_, rfl⟩
        have hb0 : 0 ≤ r0 ∧ r0 < 256 := by rw [← hr0]; exact hby _ (by rw [List.getD_eq_getElem?_getD, List.getElem?_eq_getElem (show 0 < rest.length by omega)]; exact List.getElem_mem _)
        obtain ⟨hb0a, hb0b⟩ := hb0
        rw [hr0] at c0x c0y c0z hfin hc1
        clear hr0
        by_cases h127 : 127 < r0
        · have hc : Hid (rest.length < 3 ∨ 127 < r0 ∨ manyOf cs k = 0) := Lib.hid (.inr (.inl h127))
          gi_wp2
          have q0' := (((q0.set 0 (.slice (some ⟨w.heap.size + 1, 0, none⟩) k k)).set 1 (.int .i64 (-1))).set 2 (.int .i64 0)).alloc (.cells #[.slice (some ad) rest.length c'] 25)
          have q1' := (((q1.stay (b := w.heap.size) (o := 0) (by omega) (.slice (some ⟨w.heap.size + 1, 0, none⟩) k k)).stay (b := w.heap.size) (o := 1) (by omega) (.int .i64 (-1))).stay (b := w.heap.size) (o := 2) (by omega) (.int .i64 0)).alloc (.cells #[.slice (some ad) rest.length c'] 25)
          refine ⟨_, results_blk (fs := _) rfl rfl q0' Try.underlying24 (by kernel_rfl), ?_⟩
          rw [hfin.out, if_pos hc.out]
          refine ⟨.slice (some ⟨w.heap.size + 1, 0, none⟩) k k, rfl, ?_, below_alloc (((hbq.setCell (p := ⟨w.heap.size, 0, none⟩) (Nat.le_refl _) _).setCell (p := ⟨w.heap.size, 1, none⟩) (Nat.le_refl _) _).setCell (p := ⟨w.heap.size, 2, none⟩) (Nat.le_refl _) _) _⟩
          have hown := q1'.owns (base := w.heap.size) (by omega) (by rw [hbl]; unfold maxLen; omega)
          exact Kd.R_of_own (by rw [hbl] at hown ⊢; exact hown) (fun _ _ => trivial)
        · by_cases hm0 : manyOf cs k = 0
          · have hc : Hid (rest.length < 3 ∨ 127 < r0 ∨ manyOf cs k = 0) := Lib.hid (.inr (.inr hm0))
            have hm0' : ((manyOf cs k : Int) == 0) = true := by simp [hm0]
            clear hm0
            gi_wp2
            have q0' := (((q0.set 0 (.slice (some ⟨w.heap.size + 1, 0, none⟩) k k)).set 1 (.int .i64 (-1))).set 2 (.int .i64 0)).alloc (.cells #[.slice (some ad) rest.length c'] 25)
            have q1' := (((q1.stay (b := w.heap.size) (o := 0) (by omega) (.slice (some ⟨w.heap.size + 1, 0, none⟩) k k)).stay (b := w.heap.size) (o := 1) (by omega) (.int .i64 (-1))).stay (b := w.heap.size) (o := 2) (by omega) (.int .i64 0)).alloc (.cells #[.slice (some ad) rest.length c'] 25)
            refine ⟨_, results_blk (fs := _) rfl rfl q0' Try.underlying24 (by kernel_rfl), ?_⟩
            rw [hfin.out, if_pos hc.out]
            refine ⟨.slice (some ⟨w.heap.size + 1, 0, none⟩) k k, rfl, ?_, below_alloc (((hbq.setCell (p := ⟨w.heap.size, 0, none⟩) (Nat.le_refl _) _).setCell (p := ⟨w.heap.size, 1, none⟩) (Nat.le_refl _) _).setCell (p := ⟨w.heap.size, 2, none⟩) (Nat.le_refl _) _) _⟩
            have hown := q1'.owns (base := w.heap.size) (by omega) (by rw [hbl]; unfold maxLen; omega)
            exact Kd.R_of_own (by rw [hbl] at hown ⊢; exact hown) (fun _ _ => trivial)
          · have hm0' : ((manyOf cs k : Int) == 0) = false := by simp [hm0]
            gi_wp2_with fail
            refine (came_in Fence.wide hF rfl 8 (some ⟨w.heap.size + 1, 0, none⟩) k k (-1) 0 _).mono ?_
            rintro e W2 ⟨rfl, rfl⟩
            gi_wp2_with fail
            obtain ⟨W3, hW3⟩ : ∃ W3, ((W1.alloc (.cells #[.slice (some ad) rest.length c'] 25)).alloc (.cells #[.slice (some ⟨w.heap.size + 1, 0, none⟩) k k, .int .i64 (-1), .int .i64 0] 24)) = W3 := ⟨_, rfl⟩
            rw [hW3]
            have hsz3 : W3.heap.size = W1.heap.size + 1 + 1 := by rw [← hW3]; simp
            have s1 : Blk W3 (w.heap.size + 1) 4 (encV Value.bool (readBits cs k k)) := by rw [← hW3]; exact (q1.alloc _).alloc _
            have s2 : Blk W3 (w.heap.size + 1 + 1) 24 #[.slice (some ⟨w.heap.size + 1, 0, none⟩) k k, .int .i64 (-1), .int .i64 0] := by rw [← hW3]; exact (q2.alloc _).alloc _
            have s3 : Blk W3 (w.heap.size + 1 + 1 + 1) 3 #[.int .i64 (manyOf cs k)] := by rw [← hW3]; exact (q3.alloc _).alloc _
            have s0 : Blk W3 w.heap.size 24 #[.slice none 0 0, .int .i64 0, .int .i64 0] := by rw [← hW3]; exact (q0.alloc _).alloc _
            have sr : Blk W3 W1.heap.size 25 #[.slice (some ad) rest.length c'] := by rw [← hW3]; exact (Blk.new W1 25 _).alloc _
            have si : Blk W3 (W1.heap.size + 1) 24 #[.slice (some ⟨w.heap.size + 1, 0, none⟩) k k, .int .i64 (-1), .int .i64 0] := by
              rw [← hW3]; have := Blk.new (W1.alloc (.cells #[.slice (some ad) rest.length c'] 25)) 24 #[.slice (some ⟨w.heap.size + 1, 0, none⟩) k k, .int .i64 (-1), .int .i64 0]; simpa using this
            have hb3 : Below w.heap.size w W3 := by rw [← hW3]; exact below_alloc (below_alloc hbq _) _
            clear hW3 c0z c0x c0y
            have hc1y : w.cell? ad = some (.int .u8 r0) := by simpa [Addr.add] using hc1
            obtain ⟨t, ht⟩ : ∃ t, r0 % (manyOf cs k : Int) = t := ⟨_, rfl⟩
            have hmpos : (0 : Int) < manyOf cs k := by omega
            rw [ht] at hfin
            refine wpIn_range2 (F := Fence.wide) rfl (by omega) (gf := 58) (lb := #[.pointer (some ⟨W1.heap.size + 1, 0, none⟩)]) rfl (hF _) (enters_of Try.func58 (by kernel_rfl) rfl) ⟨by decide, by simp, by simp, by decide⟩
              (came_stops Fence.wide hF rfl 8 (by omega) (W1.heap.size + 1) (w.heap.size + 1 + 1) (some ⟨w.heap.size + 1, 0, none⟩) k (readBits cs k k) W3 (by omega) (by omega) (fun a e _ => by cases e; show w.heap.size + 1 < _; omega) (by rw [hbl]; exact si.cell 0) (s1.reads (by rw [hbl]; unfold maxLen; omega)))
              belowK_t (belowK_b (by omega)) (Below.refl _ _)
              (fun pre W => (Blk W (w.heap.size + 1) 4 (encV Value.bool (readBits cs k k)) ∧ Blk W (w.heap.size + 1 + 1) 24 #[.slice (some ⟨w.heap.size + 1, 0, none⟩) k k, .int .i64 (tornOf t pre), .int .i64 0] ∧ Blk W (w.heap.size + 1 + 1 + 1) 3 #[.int .i64 (manyOf cs k)] ∧ Blk W w.heap.size 24 #[.slice none 0 0, .int .i64 0, .int .i64 0] ∧ Blk W W1.heap.size 25 #[.slice (some ad) rest.length c']) ∧ Below w.heap.size w W)
              (fun _ _ _ => False)
              (OwnFrom.and (fun s W W' row hs hg hr => ⟨hs.1.own hg hr, hs.2.1.own hg hr, hs.2.2.1.own hg hr, hs.2.2.2.1.own hg hr, hs.2.2.2.2.own hg hr⟩) (ownFrom_below (Nat.le_refl _) (by omega)))
              (fun _ _ _ _ _ hs _ _ => hs.elim)
              ⟨⟨s1, s2, s3, s0, sr⟩, hb3⟩ ?body ?done ?stop
            case stop => exact fun D c pre W _ _ h _ => h.elim
            case body =>
              rintro lp pre ⟨⟨x0, hx0⟩, ⟨x1, hx1⟩⟩ W ⟨⟨t1, t2, t3, t0, tr⟩, hbX⟩ hlen
              simp only [frame2, List.setIfInBounds_toArray, List.set_cons_zero, List.set_cons_succ]
              have hbz := hbX.size
              have tl := tr.lt
              have tl3 := t3.lt
              cases hxt : (x0 : Int) == t with
              | true =>
                have hsn : Hid (tornOf t (pre ++ [(⟨x0, hx0⟩, ⟨x1, hx1⟩)]) = (x1 : Int)) := Lib.hid (by rw [tornOf_snoc, if_pos (beq_iff_eq.1 hxt)])
                gi_wp2
                refine wpIn_region_phases 8 [.int .i64 x0, .slice (some ad) rest.length c', .pointer (some ad), .int .u8 r0, .int .i64 r0, .int .i64 (manyOf cs k), .int .i64 t, .bool true]
                  (fun W' => Below W.heap.size W W') (by kernel_rfl) (by kernel_rfl) rfl (Below.refl _ _).drew ?step ?tail
                case step =>
                  intro W' hb
                  have g1 : W'.cell? ⟨W1.heap.size, 0, none⟩ = some (.slice (some ad) rest.length c') := (tr.below hb).cell 0
                  have g2 : W'.cell? ⟨w.heap.size + 1 + 1 + 1, 0, none⟩ = some (.int .i64 (manyOf cs k)) := (t3.below hb).cell 0
                  have g3 : W'.cell? ad = some (.int .u8 r0) := ((below_then hbX hbX.size hb).cell (p := ad) hab).trans hc1y
                  have hb := Lib.hid hb
                  simp only [List.take_succ_cons, List.take_zero, AllIn, fillT, List.setIfInBounds_toArray, List.set_cons_zero, List.set_cons_succ]
                  refine ⟨?_, ?_, ?_, ?_, ?_, ?_, ?_, ?_, trivial⟩
                  all_goals
                    gi_wp2
                    first | exact ⟨rfl, hb.out⟩ | (refine ⟨?_, hb.out⟩; congr 1; congr 1; simp only [List.cons.injEq, true_and, and_true, Value.int.injEq]; exact ht)
                case tail =>
                  intro W' hb
                  have u1 := t1.below hb
                  have u2 := t2.below hb
                  have u3 := t3.below hb
                  have u0 := t0.below hb
                  have ur := tr.below hb
                  have hbk := (below_then hbX hbX.size hb)
                  simp only [List.take_succ_cons, List.take_zero, List.drop_succ_cons, List.drop_nil, fillT, List.setIfInBounds_toArray, List.set_cons_zero, List.set_cons_succ]
                  have g5 : W'.cell? ⟨w.heap.size + 1 + 1, 1, none⟩ = some (.int .i64 (tornOf t pre)) := u2.cell 1
                  have g6 := u2.frozen 1
                  have hk1 : Below (w.heap.size + 1 + 1) W W' := hb.mono (by omega)
                  have hb := Lib.hid hb
                  have hbk := Lib.hid hbk
                  gi_wp2
                  refine ⟨(keepsOthers_of_below hb.out).trans (KeepsOthers.setCell _ _ _), hk1.setCell (p := ⟨w.heap.size + 1 + 1, 1, none⟩) (Nat.le_refl _) _, ⟨u1.stay (by omega) _, ?_, u3.stay (by omega) _, u0.stay (by omega) _, ur.stay (by omega) _⟩, hbk.out.setCell (p := ⟨w.heap.size + 1 + 1, 1, none⟩) (by show _ ≤ w.heap.size + 1 + 1; omega) _⟩
                  rw [hsn.out]; exact u2.set 1 _
              | false =>
                have hsn : Hid (tornOf t (pre ++ [(⟨x0, hx0⟩, ⟨x1, hx1⟩)]) = tornOf t pre) := Lib.hid (by rw [tornOf_snoc, if_neg (beq_eq_false_iff_ne.1 hxt)])
                gi_wp2
                refine wpIn_region_phases 8 [.int .i64 x0, .slice (some ad) rest.length c', .pointer (some ad), .int .u8 r0, .int .i64 r0, .int .i64 (manyOf cs k), .int .i64 t, .bool false]
                  (fun W' => Below W.heap.size W W') (by kernel_rfl) (by kernel_rfl) rfl (Below.refl _ _).drew ?step ?tail
                case step =>
                  intro W' hb
                  have g1 : W'.cell? ⟨W1.heap.size, 0, none⟩ = some (.slice (some ad) rest.length c') := (tr.below hb).cell 0
                  have g2 : W'.cell? ⟨w.heap.size + 1 + 1 + 1, 0, none⟩ = some (.int .i64 (manyOf cs k)) := (t3.below hb).cell 0
                  have g3 : W'.cell? ad = some (.int .u8 r0) := ((below_then hbX hbX.size hb).cell (p := ad) hab).trans hc1y
                  have hb := Lib.hid hb
                  simp only [List.take_succ_cons, List.take_zero, AllIn, fillT, List.setIfInBounds_toArray, List.set_cons_zero, List.set_cons_succ]
                  refine ⟨?_, ?_, ?_, ?_, ?_, ?_, ?_, ?_, trivial⟩
                  all_goals
                    gi_wp2
                    first | exact ⟨rfl, hb.out⟩ | (refine ⟨?_, hb.out⟩; congr 1; congr 1; simp only [List.cons.injEq, true_and, and_true, Value.int.injEq]; exact ht)
                case tail =>
                  intro W' hb
                  have u1 := t1.below hb
                  have u2 := t2.below hb
                  have u3 := t3.below hb
                  have u0 := t0.below hb
                  have ur := tr.below hb
                  have hbk := (below_then hbX hbX.size hb)
                  simp only [List.take_succ_cons, List.take_zero, List.drop_succ_cons, List.drop_nil, fillT, List.setIfInBounds_toArray, List.set_cons_zero, List.set_cons_succ]
                  have g5 : W'.cell? ⟨w.heap.size + 1 + 1, 1, none⟩ = some (.int .i64 (tornOf t pre)) := u2.cell 1
                  have g6 := u2.frozen 1
                  have hk1 : Below (w.heap.size + 1 + 1) W W' := hb.mono (by omega)
                  have hb := Lib.hid hb
                  have hbk := Lib.hid hbk
                  gi_wp2
                  exact ⟨keepsOthers_of_below hb.out, hk1, ⟨u1, by rw [hsn.out]; exact u2, u3, u0, ur⟩, hbk.out⟩
            case done =>
              rintro D ys W hD rfl ⟨⟨t1, t2, t3, t0, tr⟩, hbX⟩ hK
              obtain ⟨ad1, ha1, _, hc2⟩ := byte_at hCr (show 1 < rest.length by omega)
              obtain ⟨ad2, ha2, _, hc3⟩ := byte_at hCr (show 2 < rest.length by omega)
              cases ha1
              cases ha2
              have hb1y : 0 ≤ rest.getD 1 0 ∧ rest.getD 1 0 < 256 := hby _ (by rw [List.getD_eq_getElem?_getD, List.getElem?_eq_getElem (show 1 < rest.length by omega)]; exact List.getElem_mem _)
              have hb2y : 0 ≤ rest.getD 2 0 ∧ rest.getD 2 0 < 256 := hby _ (by rw [List.getD_eq_getElem?_getD, List.getElem?_eq_getElem (show 2 < rest.length by omega)]; exact List.getElem_mem _)
              have hor := or16 _ _ hb1y hb2y
              obtain ⟨r1, hr1⟩ : ∃ r, rest.getD 1 0 = r := ⟨_, rfl⟩
              obtain ⟨r2, hr2⟩ : ∃ r, rest.getD 2 0 = r := ⟨_, rfl⟩
              rw [hr1] at hc2 hb1y hor hfin
              rw [hr2] at hc3 hb2y hor hfin
              clear hr1 hr2
              obtain ⟨hb1a, hb1b⟩ := hb1y
              obtain ⟨hb2a, hb2b⟩ := hb2y
              have h1l : (1 : Int) < rest.length := by omega
              have h2l : (2 : Int) < rest.length := by omega
              obtain ⟨x, hx⟩ : ∃ x, r1 * 256 + r2 = x := ⟨_, rfl⟩
              have hx0 : 0 ≤ x := by omega
              have hx1 : x < 65536 := by omega
              rw [hx] at hor hfin
              clear hx
              have hfin2 : Hid (fateRead cs n = (readBits cs k k, tornOf t (cameL (readBits cs k k) (readBits cs k k).length), x % 257)) := Lib.hid (by
                rw [hfin.out, if_neg (by simp at hm0'; omega)])
              clear hfin
              obtain ⟨tv, htv⟩ : ∃ tv, tornOf t (cameL (readBits cs k k) (readBits cs k k).length) = tv := ⟨_, rfl⟩
              rw [htv] at t2 hfin2
              clear htv
              gi_wp2
              refine wpIn_region_phases 11 [.slice (some ad) rest.length c', .pointer (some ⟨ad.block, ad.off + 1, none⟩), .int .u8 r1, .int .i64 r1, .int .i64 (r1 * 256), .slice (some ad) rest.length c', .pointer (some ⟨ad.block, ad.off + 2, none⟩), .int .u8 r2, .int .i64 r2, .int .i64 x, .int .i64 (x % 257)]
                (fun W' => Below W.heap.size W W') (by kernel_rfl) (by kernel_rfl) rfl (Below.refl _ _).drew ?step ?tail
              case step =>
                intro W' hb
                have g1 : W'.cell? ⟨W1.heap.size, 0, none⟩ = some (.slice (some ad) rest.length c') := (tr.below hb).cell 0
                have g3 : W'.cell? (ad.add 1) = some (.int .u8 r1) := ((below_then hbX hbX.size hb).cell (p := ad.add 1) (by rw [add_block]; exact hab)).trans hc2
                have g4 : W'.cell? (ad.add 2) = some (.int .u8 r2) := ((below_then hbX hbX.size hb).cell (p := ad.add 2) (by rw [add_block]; exact hab)).trans hc3
                have g3' : W'.cell? ⟨ad.block, ad.off + 1, none⟩ = some (.int .u8 r1) := by simpa [Addr.add] using g3
                have g4' : W'.cell? ⟨ad.block, ad.off + 2, none⟩ = some (.int .u8 r2) := by simpa [Addr.add] using g4
                clear g3 g4
                have hb := Lib.hid hb
                simp only [List.take_succ_cons, List.take_zero, AllIn, fillT, List.setIfInBounds_toArray, List.set_cons_zero, List.set_cons_succ]
                refine ⟨?_, ?_, ?_, ?_, ?_, ?_, ?_, ?_, ?_, ?_, ?_, trivial⟩
                all_goals
                  gi_wp2
                  first | exact ⟨rfl, hb.out⟩ | (refine ⟨?_, hb.out⟩; congr 1; congr 1; simp only [List.cons.injEq, true_and, and_true, Value.int.injEq]; go_goals)
              case tail =>
                intro W' hb
                have u1 := t1.below hb
                have u2 := t2.below hb
                have u0 := t0.below hb
                have hbk := Lib.hid (below_then hbX hbX.size hb)
                have hDlt : D < W.heap.size := (Array.getElem?_eq_some_iff.1 hK).1
                have hK' : Hid (W'.heap[D]? = some (.deferred (some []))) := Lib.hid ((hb.block D hDlt).trans hK)
                simp only [List.take_succ_cons, List.take_zero, List.drop_succ_cons, fillT, List.setIfInBounds_toArray, List.set_cons_zero, List.set_cons_succ]
                have g0 : W'.cell? ⟨w.heap.size + 1 + 1, 0, none⟩ = some (.slice (some ⟨w.heap.size + 1, 0, none⟩) k k) := u2.cell 0
                have g5 : W'.cell? ⟨w.heap.size + 1 + 1, 1, none⟩ = some (.int .i64 tv) := u2.cell 1
                have g6 : W'.cell? ⟨w.heap.size + 1 + 1, 2, none⟩ = some (.int .i64 0) := u2.cell 2
                have g7 := u2.frozen 2
                have e0 : W'.cell? ⟨w.heap.size, 0, none⟩ = some (.slice none 0 0) := u0.cell 0
                have e1 : W'.cell? ⟨w.heap.size, 1, none⟩ = some (.int .i64 0) := u0.cell 1
                have e2 : W'.cell? ⟨w.heap.size, 2, none⟩ = some (.int .i64 0) := u0.cell 2
                have e3 := u0.frozen 0
                have e4 := u0.frozen 1
                have e5 := u0.frozen 2
                gi_wp2
                have z2 := (((u0.stay (b := w.heap.size + 1 + 1) (o := 2) (by omega) (.int .i64 (x % 257))).set 0 (.slice (some ⟨w.heap.size + 1, 0, none⟩) k k)).set 1 (.int .i64 tv)).set 2 (.int .i64 (x % 257))
                have z1 := (((u1.stay (b := w.heap.size + 1 + 1) (o := 2) (by omega) (.int .i64 (x % 257))).stay (b := w.heap.size) (o := 0) (by omega) (.slice (some ⟨w.heap.size + 1, 0, none⟩) k k)).stay (b := w.heap.size) (o := 1) (by omega) (.int .i64 tv)).stay (b := w.heap.size) (o := 2) (by omega) (.int .i64 (x % 257))
                have hK5 : ((((W'.setCell ⟨w.heap.size + 1 + 1, 2, none⟩ (.int .i64 (x % 257))).setCell ⟨w.heap.size, 0, none⟩ (.slice (some ⟨w.heap.size + 1, 0, none⟩) k k)).setCell ⟨w.heap.size, 1, none⟩ (.int .i64 tv)).setCell ⟨w.heap.size, 2, none⟩ (.int .i64 (x % 257))).heap[D]? = some (.deferred (some [])) := by
                  rw [Below.heap_setCell _ _ _ D (by show D ≠ w.heap.size; omega), Below.heap_setCell _ _ _ D (by show D ≠ w.heap.size; omega), Below.heap_setCell _ _ _ D (by show D ≠ w.heap.size; omega), Below.heap_setCell _ _ _ D (by show D ≠ w.heap.size + 1 + 1; omega)]
                  exact hK'.out
                refine ⟨by simp, .inl ⟨_, _, rfl, run_takeDeferred hK5, ?_⟩⟩
                refine ⟨_, results_blk (fs := _) rfl rfl (z2.putObj _ hK5 rfl) Try.underlying24 (by kernel_rfl), ?_⟩
                rw [hfin2.out]
                refine ⟨.slice (some ⟨w.heap.size + 1, 0, none⟩) k k, rfl, ?_, ((((hbk.out.setCell (p := ⟨w.heap.size + 1 + 1, 2, none⟩) (by show _ ≤ w.heap.size + 1 + 1; omega) _).setCell (p := ⟨w.heap.size, 0, none⟩) (Nat.le_refl _) _).setCell (p := ⟨w.heap.size, 1, none⟩) (Nat.le_refl _) _).setCell (p := ⟨w.heap.size, 2, none⟩) (Nat.le_refl _) _).trans (belowK_b (w := w) (Nat.le_refl _) _ D _ _ (by omega) hK5 rfl rfl)⟩
                have hown := (z1.putObj (.deferred none) hK5 rfl).owns (base := w.heap.size) (by omega) (by rw [hbl]; unfold maxLen; omega)
                exact Kd.R_of_own (by rw [hbl] at hown ⊢; exact hown) (fun _ _ => trivial)
end Go.Proofs.Ytknibnbepmdapaa
