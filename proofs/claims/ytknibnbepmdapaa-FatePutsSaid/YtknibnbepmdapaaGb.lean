/-
fate.After: its contract.
-/
import Derived.Test.YtknibnbepmdapaaGa
namespace Go.Proofs.Ytknibnbepmdapaa
open Go.RowKit Go.Shelf Go.Proofs.YtknibnbepmdapaaW.PrintWords Go.Proofs.Ytknibnbepmdapaa.PFate
attribute [local go_sem] Oper.semAt_some

theorem make_strings (n : Nat) (h : n ≤ 17592186044416) (w : World) :
    (Instr.makeSlice 33 (.int .i64 (n : Int)) (.int .i64 (n : Int))).run Try.prog w = .ok (.slice (some ⟨w.heap.size, 0, none⟩) n n) (w.alloc (.cells (encV Value.string (List.replicate n (⟨#[]⟩ : ByteArray))) 9)) := by
  rw [run_make_row' (P := Try.prog) 33 9 (.string ⟨#[]⟩) 16 Try.underlying33 (by kernel_rfl) rfl .i64 .i64 n (by omega) (by omega) w, madeCells_one, encV_replicate]

/-- One of these lies at or behind m. -/
def Seen {N : Nat} (m : Nat) (pre : List (Fin N × Fin N)) : Prop := ∃ x ∈ pre, m ≤ x.2.val

def AfterPost (w : World) (r : List ByteArray) : Ending → World → Prop := fun e w' =>
  ∃ v0 : Value, e = .returned v0 ∧ Kd.R Kd.string 9 w' w.heap.size (fun _ => True) v0 r ∧ Below w.heap.size w w'

set_option maxRecDepth 100000 in
set_option maxHeartbeats 1600000 in
theorem after_in (A0 : Option Addr) (c0 : Nat) (was : List ByteArray) (A1 : Option Addr) (c1 : Nat) (l : List S43) (A2 : Option Addr) (c2 : Nat) (came : List Bool) (torn at_ : Int) (w : World)
    (hr0 : Kd.C Kd.string w A0 was.length was) (hr1 : Kd.C k43 w A1 l.length l) (hr2 : Kd.C Kd.bool w A2 came.length came)
    (hall : All256 was) (hm : was.length ≤ 17592186044416) :
    CallsIn Fence.wide 9 Try.prog 19 #[.slice A0 was.length c0, .slice A1 l.length c1, .agg #[.slice A2 came.length c2, .int .i64 torn, .int .i64 at_]] w (AfterPost w (fateAfter was l came torn at_)) := by
  have hF : ∀ f, Fence.wide.fn f := fun _ => trivial
  refine callsIn_of_wp_marks Try.func19 rfl (hF _) ?_ rfl
  simp only [Try.ntmps19, List.size_toArray, List.length_cons, List.length_nil, Nat.reduceAdd, Nat.reduceSub, Array.replicate_succ, Array.replicate_zero, List.push_toArray, List.append_toArray, List.nil_append, List.cons_append]
  have hm0 := Kd.C_max hr0
  have hm1 := Kd.C_max hr1
  obtain ⟨n, hn⟩ : ∃ n, was.length = n := ⟨_, rfl⟩
  have hmk := fun w => make_strings n (by omega) w
  obtain ⟨w1, hw1⟩ : ∃ w1, (((w.alloc (.cells #[.slice A1 l.length c1] 35)).alloc (.cells #[.slice A2 came.length c2, .int .i64 torn, .int .i64 at_] 24)).alloc (.cells (encV Value.string (List.replicate n (⟨#[]⟩ : ByteArray))) 9)).alloc (.cells #[.slice (some ⟨w.heap.size + 1 + 1, 0, none⟩) n n] 33) = w1 := ⟨_, rfl⟩
  have hz1 : w1.heap.size = w.heap.size + 4 := by rw [← hw1]; simp
  have b0 : Blk w1 w.heap.size 35 #[.slice A1 l.length c1] := by rw [← hw1]; exact (((Blk.new w 35 _).alloc _).alloc _).alloc _
  have b1 : Blk w1 (w.heap.size + 1) 24 #[.slice A2 came.length c2, .int .i64 torn, .int .i64 at_] := by
    rw [← hw1]; have := ((Blk.new (w.alloc (.cells #[.slice A1 l.length c1] 35)) 24 #[.slice A2 came.length c2, .int .i64 torn, .int .i64 at_]).alloc (.cells (encV Value.string (List.replicate n (⟨#[]⟩ : ByteArray))) 9)).alloc (.cells #[.slice (some ⟨w.heap.size + 1 + 1, 0, none⟩) n n] 33); simpa using this
  have b2 : Blk w1 (w.heap.size + 1 + 1) 9 (encV Value.string (List.replicate n (⟨#[]⟩ : ByteArray))) := by
    rw [← hw1]; have := (Blk.new ((w.alloc (.cells #[.slice A1 l.length c1] 35)).alloc (.cells #[.slice A2 came.length c2, .int .i64 torn, .int .i64 at_] 24)) 9 (encV Value.string (List.replicate n (⟨#[]⟩ : ByteArray)))).alloc (.cells #[.slice (some ⟨w.heap.size + 1 + 1, 0, none⟩) n n] 33); simpa using this
  have b3 : Blk w1 (w.heap.size + 1 + 1 + 1) 33 #[.slice (some ⟨w.heap.size + 1 + 1, 0, none⟩) n n] := by
    rw [← hw1]; have := Blk.new (((w.alloc (.cells #[.slice A1 l.length c1] 35)).alloc (.cells #[.slice A2 came.length c2, .int .i64 torn, .int .i64 at_] 24)).alloc (.cells (encV Value.string (List.replicate n (⟨#[]⟩ : ByteArray))) 9)) 33 #[.slice (some ⟨w.heap.size + 1 + 1, 0, none⟩) n n]; simpa using this
  have hb1 : Below w.heap.size w w1 := by rw [← hw1]; exact below_alloc (below_alloc (below_alloc (below_alloc (Below.refl _ _) _) _) _) _
  obtain ⟨w2, hcopy, b2', hz2, hbel, hkeep⟩ := copy_strings was A0 c0 (w.heap.size + 1 + 1) w1 (by rw [hn]; exact b2) (Kd.C_below hr0 hb1)
  rw [hn] at hcopy
  subst hw1
  have hb2 := hb1.trans (hbel w.heap.size (by omega))
  have c0' : Blk w2 w.heap.size 35 #[.slice A1 l.length c1] := (hkeep _ (by omega)).trans b0
  have c1' : Blk w2 (w.heap.size + 1) 24 #[.slice A2 came.length c2, .int .i64 torn, .int .i64 at_] := (hkeep _ (by omega)).trans b1
  have c3' : Blk w2 (w.heap.size + 1 + 1 + 1) 33 #[.slice (some ⟨w.heap.size + 1 + 1, 0, none⟩) n n] := (hkeep _ (by omega)).trans b3
  clear b0 b1 b2 b3
  have hz2' : w2.heap.size = w.heap.size + 1 + 1 + 1 + 1 := by rw [hz2, hz1]
  have g1 := c1'.cell 0
  have g2 := c1'.cell 1
  have g3 := c1'.cell 2
  rw [hn]
  gi_wp2_with (refine wpListIn_copy_run _ rfl _ _ _ _ rfl _ _ rfl rfl hcopy ?_)
  refine (came_in Fence.wide hF rfl 8 A2 came.length c2 torn at_ _).mono ?_
  rintro e w3 ⟨rfl, rfl⟩
  clear hcopy hmk g1 g2 g3
  gi_wp2_with fail
  obtain ⟨W3, hW3⟩ : ∃ W3, w2.alloc (.cells #[.slice A2 came.length c2, .int .i64 torn, .int .i64 at_] 24) = W3 := ⟨_, rfl⟩
  rw [hW3]
  have hsz : W3.heap.size = w.heap.size + 5 := by rw [← hW3]; simp; omega
  have k0 : Blk W3 w.heap.size 35 #[.slice A1 l.length c1] := by rw [← hW3]; exact c0'.alloc _
  have k1 : Blk W3 (w.heap.size + 1) 24 #[.slice A2 came.length c2, .int .i64 torn, .int .i64 at_] := by rw [← hW3]; exact c1'.alloc _
  have k2 : Blk W3 (w.heap.size + 1 + 1) 9 (encV Value.string (afterFold l torn at_ was ([] : List (Fin came.length × Fin came.length)))) := by rw [← hW3]; exact b2'.alloc _
  have k3 : Blk W3 (w.heap.size + 1 + 1 + 1) 33 #[.slice (some ⟨w.heap.size + 1 + 1, 0, none⟩) n n] := by rw [← hW3]; exact c3'.alloc _
  have k4 : Blk W3 (w.heap.size + 1 + 1 + 1 + 1) 24 #[.slice A2 came.length c2, .int .i64 torn, .int .i64 at_] := by rw [← hW3, ← hz2']; exact Blk.new w2 24 _
  have hb3 : Below w.heap.size w W3 := by rw [← hW3]; exact below_alloc hb2 _
  have hAb : ∀ ad, A2 = some ad → 0 < came.length → ad.block < w.heap.size := fun ad e h0 => by
    obtain ⟨ad', e', hlt, _⟩ := bool_at hr2 h0
    rw [e] at e'; cases e'; exact hlt
  clear hW3 c0' c1' b2' c3' hb2 hbel hkeep hz2' hz2 hz1 hb1
  refine wpIn_range1 (F := Fence.wide) rfl (by omega) (gf := 58) (lb := #[.pointer (some ⟨w.heap.size + 1 + 1 + 1 + 1, 0, none⟩)]) rfl (hF _) (enters_of Try.func58 (by kernel_rfl) rfl) (by simp)
    (came_stops Fence.wide hF rfl 8 (by omega) (w.heap.size + 1 + 1 + 1 + 1) w.heap.size A2 c2 came W3 (by omega) (by omega) hAb (k4.cell 0) (Kd.C_below hr2 hb3))
    belowK_t (belowK_b (by omega)) (Below.refl _ _)
    (fun pre W => (Blk W w.heap.size 35 #[.slice A1 l.length c1] ∧ Blk W (w.heap.size + 1) 24 #[.slice A2 came.length c2, .int .i64 torn, .int .i64 at_] ∧ Blk W (w.heap.size + 1 + 1) 9 (encV Value.string (afterFold l torn at_ was pre)) ∧ Blk W (w.heap.size + 1 + 1 + 1) 33 #[.slice (some ⟨w.heap.size + 1 + 1, 0, none⟩) n n]) ∧ Below w.heap.size w W)
    (fun c pre W => c = .exit 0 ∧ Seen l.length pre ∧ (Blk W (w.heap.size + 1 + 1) 9 (encV Value.string (afterFold l torn at_ was pre)) ∧ Blk W (w.heap.size + 1 + 1 + 1) 33 #[.slice (some ⟨w.heap.size + 1 + 1, 0, none⟩) n n]) ∧ Below w.heap.size w W)
    (OwnFrom.and (fun s W W' row hs hg hr => ⟨hs.1.own hg hr, hs.2.1.own hg hr, hs.2.2.1.own hg hr, hs.2.2.2.own hg hr⟩) (ownFrom_below (Nat.le_refl _) (by omega)))
    ?ix
    ⟨⟨k0, k1, k2, k3⟩, hb3⟩ ?body ?done ?stop
  case ix => exact fun c s W W' row hs hg hr => ⟨hs.1, hs.2.1, ⟨hs.2.2.1.1.own hg hr, hs.2.2.1.2.own hg hr⟩, ownFrom_below (Nat.le_refl _) (by omega) s W W' row hs.2.2.2 hg hr⟩
  case stop => 
    rintro D c pre W hD ⟨k, hk, hpre⟩ ⟨rfl, ⟨x, hx, hxl⟩, ⟨j2, j3⟩, hbW⟩ hK
    rw [afterFold_pre l torn at_ was came hk hpre hx hxl] at j2
    have f2 : W.cell? ⟨w.heap.size + 1 + 1 + 1, 0, none⟩ = some (.slice (some ⟨w.heap.size + 1 + 1, 0, none⟩) n n) := j3.cell 0
    have hfl := afterFold_length l torn at_ (cameL came came.length) was
    change (fateAfter was l came torn at_).length = _ at hfl
    generalize fateAfter was l came torn at_ = fin at *
    gi_wp2
    refine ⟨by simp, .inl ⟨_, _, rfl, run_takeDeferred hK, ?_⟩⟩
    refine ⟨_, results_tmp rfl _ _ _, ?_⟩
    have hown := (j2.putObj (.deferred none) hK rfl).owns (base := w.heap.size) (by omega) (by rw [hfl]; unfold maxLen; omega)
    rw [hfl, hn] at hown
    exact ⟨_, rfl, Kd.R_of_own (by rw [hfl, hn]; exact hown) (fun _ _ => trivial), hbW.trans (belowK_b (w := w) (Nat.le_refl _) W D _ _ (by omega) hK rfl rfl)⟩
  case done =>
    rintro D ys W hD rfl ⟨⟨j0, j1, j2, j3⟩, hbW⟩ hK
    change Blk W (w.heap.size + 1 + 1) 9 (encV Value.string (fateAfter was l came torn at_)) at j2
    have f2 : W.cell? ⟨w.heap.size + 1 + 1 + 1, 0, none⟩ = some (.slice (some ⟨w.heap.size + 1 + 1, 0, none⟩) n n) := j3.cell 0
    have hfl := afterFold_length l torn at_ (cameL came came.length) was
    change (fateAfter was l came torn at_).length = _ at hfl
    generalize fateAfter was l came torn at_ = fin at *
    gi_wp2
    refine ⟨by simp, .inl ⟨_, _, rfl, run_takeDeferred hK, ?_⟩⟩
    refine ⟨_, results_tmp rfl _ _ _, ?_⟩
    have hown := (j2.putObj (.deferred none) hK rfl).owns (base := w.heap.size) (by omega) (by rw [hfl]; unfold maxLen; omega)
    rw [hfl, hn] at hown
    exact ⟨_, rfl, Kd.R_of_own (by rw [hfl, hn]; exact hown) (fun _ _ => trivial), hbW.trans (belowK_b (w := w) (Nat.le_refl _) W D _ _ (by omega) hK rfl rfl)⟩
  case body =>
    rintro lp pre ⟨⟨k, hk⟩, ⟨i, hi⟩⟩ W ⟨⟨j0, j1, j2, j3⟩, hbW⟩ hlen
    simp only [frame1, List.setIfInBounds_toArray, List.set_cons_zero, List.set_cons_succ]
    have hfl := afterFold_length l torn at_ pre was
    have hfa := afterFold_all l torn at_ pre was hall
    have hsn := Lib.hid (afterFold_snoc l torn at_ was pre (⟨k, hk⟩, ⟨i, hi⟩))
    generalize afterFold l torn at_ was pre = out at *
    have f0 : W.cell? ⟨w.heap.size, 0, none⟩ = some (.slice A1 l.length c1) := j0.cell 0
    by_cases hil : l.length ≤ i
    · have hil' : (l.length : Int) ≤ i := by omega
      have hst : afterStep l torn at_ out i = out := by unfold afterStep; rw [if_neg (fun h => absurd h.1 (by omega))]
      gi_wp2
      refine ⟨KeepsOthers.refl _, rfl, ⟨((⟨k, hk⟩, ⟨i, hi⟩) : Fin came.length × Fin came.length), by simp, hil⟩, ⟨?_, j3⟩, hbW⟩
      rw [hsn.out, hst]
      exact j2
    · have hilt : (i : Int) < l.length := by omega
      obtain ⟨ad, e1, hcA, hcB⟩ := at_T43 (Kd.C_below hr1 hbW) (i : Int) (by omega) (by omega)
      rw [Int.toNat_natCast] at hcA hcB
      subst e1
      have hst : Hid (afterStep l torn at_ out i = if i < l.length ∧ 0 ≤ (rd_T43 l i).f0 ∧ (rd_T43 l i).f0 < out.length ∧ (rd_T43 l i).f1.size = 256 then
        out.set (rd_T43 l i).f0.toNat (layAt torn at_ i (rd_T43 l i).f1 (out.getD (rd_T43 l i).f0.toNat ByteArray.empty)) else out) := Lib.hid rfl
      generalize rd_T43 l (i : Int) = x at hcA hcB hst
      obtain ⟨sec, data⟩ := x
      dsimp only at hcA hcB
      have hlt := j3.lt
      have j43 := Blk.new W 43 #[.int .i64 sec, .string data]
      have f3 : (W.alloc (.cells #[.int .i64 sec, .string data] 43)).cell? ⟨w.heap.size + 1 + 1 + 1, 0, none⟩ = some (.slice (some ⟨w.heap.size + 1 + 1, 0, none⟩) n n) := (j3.alloc _).cell 0
      have fin : afterStep l torn at_ out i = out → KeepsOthers W (W.alloc (.cells #[.int .i64 sec, .string data] 43)) ∧ Below w.heap.size W (W.alloc (.cells #[.int .i64 sec, .string data] 43)) ∧
          ((Blk (W.alloc (.cells #[.int .i64 sec, .string data] 43)) w.heap.size 35 #[.slice (some ad) l.length c1] ∧ Blk (W.alloc (.cells #[.int .i64 sec, .string data] 43)) (w.heap.size + 1) 24 #[.slice A2 came.length c2, .int .i64 torn, .int .i64 at_] ∧
            Blk (W.alloc (.cells #[.int .i64 sec, .string data] 43)) (w.heap.size + 1 + 1) 9 (encV Value.string (afterFold l torn at_ was (pre ++ [((⟨k, hk⟩, ⟨i, hi⟩) : Fin came.length × Fin came.length)]))) ∧ Blk (W.alloc (.cells #[.int .i64 sec, .string data] 43)) (w.heap.size + 1 + 1 + 1) 33 #[.slice (some ⟨w.heap.size + 1 + 1, 0, none⟩) n n]) ∧ Below w.heap.size w (W.alloc (.cells #[.int .i64 sec, .string data] 43))) := by
        intro hs
        refine ⟨keepsOthers_of_below ((Below.refl _ W).alloc (Nat.le_refl _) _), (Below.refl _ W).alloc hbW.size _, ⟨j0.alloc _, j1.alloc _, ?_, j3.alloc _⟩, below_alloc hbW _⟩
        rw [hsn.out, hs]
        exact j2.alloc _
      by_cases hs0 : sec < 0
      · have fin := fin (by rw [hst.out, if_neg]; intro h; have := h.2.1; simp only at this; omega)
        have fin := Lib.hid fin
        gi_wp2
        exact fin.out
      · by_cases hs1 : (n : Int) ≤ sec
        · have fin := fin (by rw [hst.out, if_neg]; intro h; have := h.2.2.1; simp only at this; omega)
          have fin := Lib.hid fin
          gi_wp2
          exact fin.out
        · by_cases hs2 : data.size = 256
          · obtain ⟨j, rfl⟩ := Int.eq_ofNat_of_zero_le (show 0 ≤ sec by omega)
            have hjn : j < n := by omega
            obtain ⟨old, hold⟩ : ∃ old, out.getD j ByteArray.empty = old := ⟨_, rfl⟩
            have ho : old.size = 256 := by
              rw [← hold, List.getD_eq_getElem?_getD, List.getElem?_eq_getElem (by omega), Option.getD_some]
              exact hfa _ (List.getElem_mem _)
            have hres : Hid (afterStep l torn at_ out i = out.set j (layAt torn at_ i data old)) := Lib.hid (by
              rw [hst.out, if_pos ⟨by omega, by show (0 : Int) ≤ (j : Int); omega, by show (j : Int) < _; omega, hs2⟩]
              show out.set ((j : Int)).toNat (layAt torn at_ i data (out.getD ((j : Int)).toNat ByteArray.empty)) = _
              rw [Int.toNat_natCast, hold])
            clear fin hst
            have c2' : Blk (W.alloc (.cells #[.int .i64 (j : Int), .string data] 43)) (w.heap.size + 1 + 1) 9 (encV Value.string out) := j2.alloc _
            have f4 : (W.alloc (.cells #[.int .i64 (j : Int), .string data] 43)).cell? ⟨w.heap.size + 1 + 1, j, none⟩ = some (.string old) := by
              rw [← hold]; exact (c2'.cell j).trans (encV_getD _ ByteArray.empty (by omega))
            have kb := fun W => print_bytes (P := Try.prog) 9 25 5 Try.underlying9 Try.underlying25 Try.underlying5 old W
            have hlt1 := hlt
            have hjn' : (j : Int) < n := by omega
            have hs2' : ((data.size : Int) == 256) = true := by rw [beq_iff_eq]; omega
            have w4 : Below W.heap.size W (Lib.bytesWorld (W.alloc (.cells #[.int .i64 (j : Int), .string data] 43)) 5 old) := bytes_below ((Below.refl _ W).alloc (Nat.le_refl _) _) (by simp) 5 old
            have w5 : Below (W.alloc (.cells #[.int .i64 (j : Int), .string data] 43)).heap.size (W.alloc (.cells #[.int .i64 (j : Int), .string data] 43)) (Lib.bytesWorld (W.alloc (.cells #[.int .i64 (j : Int), .string data] 43)) 5 old) := bytes_below (Below.refl _ _) (Nat.le_refl _) 5 old
            have p1 := (j1.below w4).cell 1
            have p2 := (j1.below w4).cell 2
            have p3 := (j43.below w5).cell 1
            have p3 : (Lib.bytesWorld (W.alloc (.cells #[.int .i64 (j : Int), .string data] 43)) 5 old).cell? ⟨W.heap.size, 1, none⟩ = some (.string data) := p3
            have p1 : (Lib.bytesWorld (W.alloc (.cells #[.int .i64 (j : Int), .string data] 43)) 5 old).cell? ⟨w.heap.size + 1, 1, none⟩ = some (.int .i64 torn) := p1
            have p2 : (Lib.bytesWorld (W.alloc (.cells #[.int .i64 (j : Int), .string data] 43)) 5 old).cell? ⟨w.heap.size + 1, 2, none⟩ = some (.int .i64 at_) := p2
            have fin : ∀ t W2, Below (W.alloc (.cells #[.int .i64 (j : Int), .string data] 43)).heap.size (W.alloc (.cells #[.int .i64 (j : Int), .string data] 43)) W2 → layAt torn at_ i data old = overlay t old →
              (Blk W2 (w.heap.size + 1 + 1 + 1) 33 #[.slice (some ⟨w.heap.size + 1 + 1, 0, none⟩) n n] ∧ W2.cell? ⟨W.heap.size, 0, none⟩ = some (.int .i64 (j : Int)) ∧ W2.cell? ⟨w.heap.size + 1 + 1, j, none⟩ = some (.string old) ∧ W2.frozen? ⟨w.heap.size + 1 + 1, j, none⟩ = false) ∧
              Hid (KeepsOthers W (W2.setCell ⟨w.heap.size + 1 + 1, j, none⟩ (.string (overlay t old))) ∧ Below w.heap.size W (W2.setCell ⟨w.heap.size + 1 + 1, j, none⟩ (.string (overlay t old))) ∧
                ((Blk (W2.setCell ⟨w.heap.size + 1 + 1, j, none⟩ (.string (overlay t old))) w.heap.size 35 #[.slice (some ad) l.length c1] ∧ Blk (W2.setCell ⟨w.heap.size + 1 + 1, j, none⟩ (.string (overlay t old))) (w.heap.size + 1) 24 #[.slice A2 came.length c2, .int .i64 torn, .int .i64 at_] ∧
                  Blk (W2.setCell ⟨w.heap.size + 1 + 1, j, none⟩ (.string (overlay t old))) (w.heap.size + 1 + 1) 9 (encV Value.string (afterFold l torn at_ was (pre ++ [((⟨k, hk⟩, ⟨i, hi⟩) : Fin came.length × Fin came.length)]))) ∧ Blk (W2.setCell ⟨w.heap.size + 1 + 1, j, none⟩ (.string (overlay t old))) (w.heap.size + 1 + 1 + 1) 33 #[.slice (some ⟨w.heap.size + 1 + 1, 0, none⟩) n n]) ∧ Below w.heap.size w (W2.setCell ⟨w.heap.size + 1 + 1, j, none⟩ (.string (overlay t old))))) := by
              intro t W2 hb hlay
              have hbW2 : Below W.heap.size W W2 := ((Below.refl _ W).alloc (Nat.le_refl _) _).trans (hb.mono (by simp))
              refine ⟨⟨j3.below hbW2, (j43.below hb).cell 0, ?_, (j2.below hbW2).frozen _⟩, Lib.hid ⟨(keepsOthers_of_below hbW2).trans (KeepsOthers.setCell _ _ _), (hbW2.mono hbW.size).setCell (p := ⟨w.heap.size + 1 + 1, j, none⟩) (by show _ ≤ w.heap.size + 1 + 1; omega) _, ⟨(j0.below hbW2).stay (by omega) _, (j1.below hbW2).stay (by omega) _, ?_, (j3.below hbW2).stay (by omega) _⟩,
                (hbW.trans (hbW2.mono hbW.size)).setCell (p := ⟨w.heap.size + 1 + 1, j, none⟩) (by show _ ≤ w.heap.size + 1 + 1; omega) _⟩⟩
              · rw [← hold]; exact ((j2.below hbW2).cell j).trans (encV_getD _ ByteArray.empty (by omega))
              · rw [hsn.out, hres.out, hlay, ← encV_set]
                exact (j2.below hbW2).set j _
            by_cases ht : (i : Int) = torn
            · have ht' : ((i : Int) == torn) = true := by rw [beq_iff_eq]; exact ht
              rcases (show at_ < 0 ∨ (∃ m : Nat, at_ = m ∧ m ≤ 256) ∨ 256 < at_ from by
                rcases Int.lt_or_le at_ 0 with h | h
                · exact .inl h
                · by_cases h' : at_ ≤ 256
                  · exact .inr (.inl ⟨at_.toNat, by omega, by omega⟩)
                  · exact .inr (.inr (by omega))) with ha | ⟨m, hm', ha⟩ | ha
              · obtain ⟨W2, hcopy, hb, hstr⟩ := lay_ok (W.alloc (.cells #[.int .i64 (j : Int), .string data] 43)) old ByteArray.empty ho (by show 0 ≤ 256; omega)
                simp only [World.size_alloc] at hcopy hstr
                obtain ⟨⟨q1, q2, q3, q4⟩, hfin⟩ := fin ByteArray.empty W2 hb (by unfold layAt; rw [if_pos ht, show (min (max at_ 0) 256).toNat = 0 by omega]; congr 1; simp)
                have q1 := q1.cell 0
                have q1 : W2.cell? ⟨w.heap.size + 1 + 1 + 1, 0, none⟩ = some (.slice (some ⟨w.heap.size + 1 + 1, 0, none⟩) n n) := q1
                clear hres fin ht hfa
                gi_wp2
                exact hfin.out
              · subst hm'
                have ha' : (m : Int) ≤ 256 := by omega
                have ha0 : (0 : Int) ≤ (m : Int) := by omega
                have hmd : (m : Int) ≤ (data.size : Int) := by omega
                obtain ⟨W2, hcopy, hb, hstr⟩ := lay_ok (W.alloc (.cells #[.int .i64 (j : Int), .string data] 43)) old (data.extract 0 m) ho (by rw [extract_size]; omega)
                simp only [World.size_alloc] at hcopy hstr
                obtain ⟨⟨q1, q2, q3, q4⟩, hfin⟩ := fin (data.extract 0 m) W2 hb (by unfold layAt; rw [if_pos ht, show (min (max (m : Int) 0) 256).toNat = m by omega])
                have q1 := q1.cell 0
                have q1 : W2.cell? ⟨w.heap.size + 1 + 1 + 1, 0, none⟩ = some (.slice (some ⟨w.heap.size + 1 + 1, 0, none⟩) n n) := q1
                clear hres fin ht hfa
                gi_wp2
                exact hfin.out
              · obtain ⟨W2, hcopy, hb, hstr⟩ := lay_ok (W.alloc (.cells #[.int .i64 (j : Int), .string data] 43)) old (data.extract 0 256) ho (by rw [extract_size]; omega)
                simp only [World.size_alloc] at hcopy hstr
                obtain ⟨⟨q1, q2, q3, q4⟩, hfin⟩ := fin (data.extract 0 256) W2 hb (by unfold layAt; rw [if_pos ht, show (min (max at_ 0) 256).toNat = 256 by omega])
                have q1 := q1.cell 0
                have q1 : W2.cell? ⟨w.heap.size + 1 + 1 + 1, 0, none⟩ = some (.slice (some ⟨w.heap.size + 1 + 1, 0, none⟩) n n) := q1
                clear hres fin ht hfa
                gi_wp2
                exact hfin.out
            · have ht' : ((i : Int) == torn) = false := by rw [beq_eq_false_iff_ne]; exact ht
              obtain ⟨W2, hcopy, hb, hstr⟩ := lay_ok (W.alloc (.cells #[.int .i64 (j : Int), .string data] 43)) old data ho (by omega)
              simp only [World.size_alloc] at hcopy hstr
              obtain ⟨⟨q1, q2, q3, q4⟩, hfin⟩ := fin data W2 hb (by unfold layAt; rw [if_neg ht])
              have q1 := q1.cell 0
              have q1 : W2.cell? ⟨w.heap.size + 1 + 1 + 1, 0, none⟩ = some (.slice (some ⟨w.heap.size + 1 + 1, 0, none⟩) n n) := q1
              clear hres fin ht hfa
              gi_wp2
              exact hfin.out
          · have fin := fin (by rw [hst.out, if_neg]; intro h; have := h.2.2.2; simp only at this; omega)
            have fin := Lib.hid fin
            have hs2' : (((data.size : Int)) == 256) = false := by rw [beq_eq_false_iff_ne]; omega
            gi_wp2
            exact fin.out

/-- **fate.After.** -/
theorem after_calls (A0 : Option Addr) (c0 : Nat) (was : List ByteArray) (A1 : Option Addr) (c1 : Nat) (l : List S43) (A2 : Option Addr) (c2 : Nat) (came : List Bool) (torn at_ : Int) (w : World)
    (hr0 : Kd.C Kd.string w A0 was.length was) (hr1 : Kd.C k43 w A1 l.length l) (hr2 : Kd.C Kd.bool w A2 came.length came)
    (hall : All256 was) (hm : was.length ≤ 17592186044416) :
    Calls Try.prog 19 #[.slice A0 was.length c0, .slice A1 l.length c1, .agg #[.slice A2 came.length c2, .int .i64 torn, .int .i64 at_]] w (AfterPost w (fateAfter was l came torn at_)) :=
  (callsIn_wide (n := 9)).1 (after_in A0 c0 was A1 c1 l A2 c2 came torn at_ w hr0 hr1 hr2 hall hm)
end Go.Proofs.Ytknibnbepmdapaa
