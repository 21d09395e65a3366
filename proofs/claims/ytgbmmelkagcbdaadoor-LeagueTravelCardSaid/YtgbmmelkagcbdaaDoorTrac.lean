/- league.Travel of a valid league and a team of it: the contract of its walk. -/
import Derived.Test.YtgbmmelkagcbdaaDoorRbox
import Derived.Test.YtgbmmelkagcbdaaDoorTail
namespace Go.Proofs.YtgbmmelkagcbdaaDoor
open Go.RowKit Go Go.Shelf
attribute [local go_sem] Oper.semAt_some wide_fn wide_depth

theorem others_drewN (W : World) (m : Nat) : KeepsOthers W (W.drewN m) := ⟨Nat.le_refl _, fun _ _ h _ => h⟩
theorem Keeps.drewN (n : Nat) (X : Nat → Bool) (W : World) (m : Nat) : Keeps n X W (W.drewN m) := ⟨rfl, rfl, rfl, Nat.le_refl _, fun _ _ _ => rfl⟩
set_option maxRecDepth 100000 in
set_option maxHeartbeats 4000000 in
theorem travel_ok (A1 A2 : Option Addr) (c1 c2 : Nat) (l : Lg) (t : Int) (w : World) (hl : LgAt w w.heap.size A1 A2 l) (hb : leagueB l = true) (ht : 0 ≤ t) (ht2 : t < l.far.length) :
    Calls Tryd.prog 6 #[lgv A1 l.far.length c1 A2 l.gs.length c2, .int .i64 t] w fun e w' => e = .returned (.tuple #[.int .i64 (travel l t), .int .i64 0]) ∧ Below w.heap.size w w' := by
  have HL := Lib.hid (hl.below ((Below.refl _ _).alloc (Nat.le_refl _) (.cells #[.slice A1 l.far.length c1, .slice A2 l.gs.length c2] 25)))
  have hn1 := hl.l1
  have hg := good_of hb
  have hin : inB t 0 ((l.far.length : Int) - 1) = true := by simp [inB]; omega
  have HG := Lib.hid hg
  have h6 := hg.n6
  have h64 := hg.g64
  clear hl hg
  refine (callsIn_wide (n := 11)).1 ?_
  refine callsIn_of_wp_marks Tryd.func6 rfl trivial ?_
  simp only [Tryd.ntmps6, List.size_toArray, List.length_cons, List.length_nil, Nat.reduceAdd, Nat.reduceSub, Array.replicate_succ, Array.replicate_zero, List.push_toArray, List.append_toArray, List.nil_append, List.cons_append]
  gi_wp2_with (first | (gi_at_call 14; refine (callsIn_wide.2 (isLeague_any _ _ _ _ l _ (HL.out.more (by simp)))).mono ?_; rintro e w1 ⟨rfl, hb1⟩; have hc1 := bcell hb1; have q1 : w1.cell? ⟨w.heap.size, 0, none⟩ = some (.slice A1 l.far.length c1) := by rw [hc1 _ _ (by simp)]; simp) | (gi_at_call 15; refine (callsIn_wide.2 (isTeam_any _ _ _ _ _ _ hn1 q1)).mono ?_; rintro e w2 ⟨rfl, rfl⟩) | (gi_at_call 16; refine (callsIn_wide.2 (of_any _ _ _)).mono ?_; rintro e w3 ⟨rfl, rfl⟩))
  have hM : w.heap.size < w1.heap.size := by have := hb1.size; simp at this; omega
  have q2 : w1.cell? ⟨w.heap.size, 1, none⟩ = some (.slice A2 l.gs.length c2) := by rw [hc1 _ _ (by simp)]; simp
  have HL1 := Lib.hid (HL.out.below (hb1.mono (by simp)))
  have HB1 := Lib.hid (below_box hb1)
  clear hc1 hb1
  obtain ⟨W2, hW2⟩ : ∃ W2, (((w1.alloc (.cells #[.int .i64 0] 3)).alloc (.cells #[.int .i64 t] 3)).alloc (.cells #[.pointer (some ⟨w.heap.size, 0, none⟩)] 47)).alloc (.cells #[.int .i64 t] 3) = W2 := ⟨_, rfl⟩
  have hs2 : W2.heap.size = w1.heap.size + 4 := by rw [← hW2]; simp
  have r1 : W2.cell? ⟨w1.heap.size, 0, none⟩ = some (.int .i64 0) := by rw [← hW2]; simp [go_sem]
  have r2 : W2.cell? ⟨w1.heap.size + 1, 0, none⟩ = some (.int .i64 t) := by rw [← hW2]; simp [go_sem]
  have r3 : W2.cell? ⟨w1.heap.size + 1 + 1, 0, none⟩ = some (.pointer (some ⟨w.heap.size, 0, none⟩)) := by rw [← hW2]; simp [go_sem]
  have r4 : W2.cell? ⟨w1.heap.size + 1 + 1 + 1, 0, none⟩ = some (.int .i64 t) := by rw [← hW2]; simp [go_sem]
  have f1 : W2.frozen? ⟨w1.heap.size, 0, none⟩ = false := by rw [← hW2]; simp [go_sem]
  have f2 : W2.frozen? ⟨w1.heap.size + 1, 0, none⟩ = false := by rw [← hW2]; simp [go_sem]
  have hbw : Below w1.heap.size w1 W2 := by rw [← hW2]; exact ((((Below.refl _ _).alloc (Nat.le_refl _) _).alloc (by simp) _).alloc (by simp; omega) _).alloc (by simp; omega) _
  have q1' : W2.cell? ⟨w.heap.size, 0, none⟩ = some (.slice A1 l.far.length c1) := by rw [bcell hbw _ _ hM]; exact q1
  have q2' : W2.cell? ⟨w.heap.size, 1, none⟩ = some (.slice A2 l.gs.length c2) := by rw [bcell hbw _ _ hM]; exact q2
  have HL2 := Lib.hid (HL1.out.below (hbw.mono (by omega)))
  simp only [hW2]
  have HBW := Lib.hid (HB1.out.trans (hbw.mono (by omega)))
  clear hW2 q1 q2 hbw HL HL1 HB1
  refine range_box (n := 11) 9 33 (fun x : OfX l t => #[.int .i64 x.1.2.d, .int .i64 x.1.2.h, .int .i64 x.1.2.a, .int .i64 x.1.2.e, .int .i64 x.1.2.hg, .int .i64 x.1.2.ag]) (by omega) (lb := #[.pointer (some ⟨w1.heap.size + 1 + 1, 0, none⟩), .pointer (some ⟨w1.heap.size + 1 + 1 + 1, 0, none⟩)]) rfl (enters_of Tryd.func39 (by kernel_rfl) rfl)
    (of_stops (w1.heap.size + 1 + 1) (w1.heap.size + 1 + 1 + 1) w.heap.size (w1.heap.size + 4) w.heap.size c2 A2 l t (fun k => k == w1.heap.size || k == w1.heap.size + 1) ⟨by omega, by simp; omega⟩ ⟨by omega, by simp; omega⟩ ⟨by omega, by simp; omega⟩ (by omega) (fun k hk => by simp; omega) (by omega) W2 (by omega) r3 r4 q2' HL2.out.gs)
    (fun h k => h.trans k) (fun W l o hl => Keeps.putObj W l o (by omega)) (fun _ => rfl)
    (fun pre W => (W.cell? ⟨w1.heap.size, 0, none⟩ = some (.int .i64 (wayS l.far t (pre.map (·.1))).1) ∧ W.frozen? ⟨w1.heap.size, 0, none⟩ = false ∧ W.cell? ⟨w1.heap.size + 1, 0, none⟩ = some (.int .i64 (wayS l.far t (pre.map (·.1))).2) ∧ W.frozen? ⟨w1.heap.size + 1, 0, none⟩ = false) ∧ Keeps (w1.heap.size + 4) (fun k => k == w1.heap.size || k == w1.heap.size + 1) W2 W)
    ?hI ?hKa ?h0 ?hsz ?assign ?body ?done
  case hI =>
    rintro pre A B row ⟨⟨s1, s2, s3, s4⟩, hk⟩ hgr hr
    have ha := hk.size
    have key : ∀ k, k < W2.heap.size → B.heap[k]? = A.heap[k]? := fun k hk' => hgr.block k (by omega) (fun e => by have := (hr k e.symm).1; omega)
    have e1 := key w1.heap.size (by omega)
    have e2 := key (w1.heap.size + 1) (by omega)
    refine ⟨⟨?_, ?_, ?_, ?_⟩, hk.trans ⟨hgr.os, hgr.tape, hgr.output, hgr.size, fun k hk' _ => key k (by omega)⟩⟩
    · exact (World.cell?_of_block (w := A) (a := ⟨w1.heap.size, 0, none⟩) e1).trans s1
    · exact (World.frozen?_of_block (w := A) (a := ⟨w1.heap.size, 0, none⟩) e1).trans s2
    · exact (World.cell?_of_block (w := A) (a := ⟨w1.heap.size + 1, 0, none⟩) e2).trans s3
    · exact (World.frozen?_of_block (w := A) (a := ⟨w1.heap.size + 1, 0, none⟩) e2).trans s4
  case hKa =>
    rintro pre W o ⟨_, hk⟩
    have ha := hk.size
    exact Keeps.of_below ((Below.refl _ W).alloc (Nat.le_refl _) o) (by omega)
  case h0 => exact ⟨⟨r1, f1, r2, f2⟩, Keeps.refl _ _ _⟩
  case hsz => rintro pre W ⟨_, hk⟩; exact hk.size
  case assign =>
    rintro lp ⟨⟨i, g⟩, hx⟩ W K hK
    simp only [encG]
    simp [roundAct, encG] at hK
    gi_wp2
    exact hK
  case body =>
    rintro lp pre ⟨⟨i, g⟩, hx1, hx2⟩ Bx W hBx hbox ⟨⟨s1, s2, s3, s4⟩, hk⟩ hlt
    dsimp only at hx1 hx2 hbox
    obtain ⟨w1', w2', w3', w4'⟩ := way_bd HG.out ht ht2 pre
    obtain ⟨g1, g2, _, _⟩ := HG.out.game_bd hx1
    obtain ⟨r, k1, k2, k3, k4, k5⟩ := HG.out.dist_bd w3' w4' g1 g2
    have hsn := wayS_snoc l.far t (pre.map (·.1)) (i, g)
    have HSN := Lib.hid hsn
    clear hsn
    obtain ⟨S, hS⟩ : ∃ S, wayS l.far t (pre.map (·.1)) = S := ⟨_, rfl⟩
    simp only [hS] at *
    have HS := Lib.hid hS
    clear hS
    obtain ⟨S1, S2⟩ := S
    dsimp only at *
    obtain ⟨a, rfl⟩ := Int.eq_ofNat_of_zero_le w3'
    obtain ⟨gd, gh, ga, ge, ghg, gag⟩ := g
    dsimp only at *
    obtain ⟨c, rfl⟩ := Int.eq_ofNat_of_zero_le g1
    rw [Int.toNat_natCast] at k1 k3
    have u1 := (hk.cell (b := w.heap.size) (o := 0) (by omega) (by simp; omega)).trans q1'
    have hfar : FarAt W w.heap.size A1 l.far := HL2.out.far.of_cells (fun b o hb => hk.cell (by omega) (by simp; omega))
    obtain ⟨b, o, Ai, ci, rfl, hb, hc1, hri⟩ := hfar.at_ k1
    obtain ⟨b2, o2, rfl, hb2, hc2⟩ := hri.int_at k3
    rw [k2] at hc1
    have HK := Lib.hid hk
    have v0 : W.cell? ⟨Bx, 1, none⟩ = some (.int .i64 c) := by simp [World.cell?, hbox]
    clear hk hfar hri k1 k3 hbox w3'
    simp [encG, roundAct]
    gi_wp2
    refine wpIn_quiet_tail (some lp) _ 11 (C := fun w' => ∃ m, w' = W.drewN m) (by kernel_rfl) (by kernel_rfl) (by kernel_rfl) (fun a w h => ?_) ⟨1, rfl⟩ ?_
    · simp only [Exit.then, Exit.inBlock] at h
      exact absurd h.1 (by simp)
    simp only [List.take_succ_cons, List.take_zero, List.drop_succ_cons, List.drop_zero]
    repeat (go_big_quiet_step (fail))
    refine wpQuiet_nil ?_
    rintro _ ⟨m, rfl⟩
    go_wp2
    gi_wp2
    have hkk : Keeps (w1.heap.size + 4) (fun k => k == w1.heap.size || k == w1.heap.size + 1) W (((W.drewN m).setCell ⟨w1.heap.size, 0, none⟩ (.int .i64 (S1 + dist l.far a c))).setCell ⟨w1.heap.size + 1, 0, none⟩ (.int .i64 c)) :=
      ((Keeps.drewN _ _ W m).trans (Keeps.setCell _ _ (.inr (by simp)))).trans (Keeps.setCell _ _ (.inr (by simp)))
    refine ⟨((((others_drewN W m).trans (KeepsOthers.setCell _ _ _)).trans (KeepsOthers.setCell _ _ _)).from _), hkk, ⟨by rw [HSN.out], by rw [HSN.out]⟩, HK.out.trans hkk⟩
  case done =>
    rintro D ys W hD hys ⟨⟨s1, s2, s3, s4⟩, hk⟩ hDD
    obtain ⟨w1', w2', w3', w4'⟩ := way_bd HG.out ht ht2 ys
    have hlen : ys.length ≤ 64 := by
      have e1 := congrArg List.length hys
      have e2 := ofL_len l.gs t l.gs.length
      rw [List.take_length] at e2
      simp only [List.length_map] at e1
      omega
    rw [hys] at s1 s3 w1' w2' w3' w4'
    obtain ⟨r, k1, k2, k3, k4, k5⟩ := HG.out.dist_bd w3' w4' ht ht2
    have hfin : travel l t = (wayS l.far t (ofL l.gs t)).1 + dist l.far (wayS l.far t (ofL l.gs t)).2 t := rfl
    obtain ⟨S, hS⟩ : ∃ S, wayS l.far t (ofL l.gs t) = S := ⟨_, rfl⟩
    rw [hS] at s1 s3 w1' w2' w3' w4' k1 k3 k4 k5 hfin
    clear hS hys
    obtain ⟨S1, S2⟩ := S
    dsimp only at *
    obtain ⟨a, rfl⟩ := Int.eq_ofNat_of_zero_le w3'
    obtain ⟨c, rfl⟩ := Int.eq_ofNat_of_zero_le ht
    rw [Int.toNat_natCast] at k1 k3
    have HF := Lib.hid hfin
    have u1 := (hk.cell (b := w.heap.size) (o := 0) (by omega) (by simp; omega)).trans q1'
    have hfar : FarAt W w.heap.size A1 l.far := HL2.out.far.of_cells (fun b o hb => hk.cell (by omega) (by simp; omega))
    obtain ⟨b, o, Ai, ci, rfl, hb, hc1, hri⟩ := hfar.at_ k1
    obtain ⟨b2, o2, rfl, hb2, hc2⟩ := hri.int_at k3
    rw [k2] at hc1
    have HK := Lib.hid hk
    clear hk hfar hri k1 k3 hfin w3'
    gi_wp2
    refine wpIn_quiet none _ (C := fun w' => ∃ m, w' = W.drewN m) (by kernel_rfl) (by kernel_rfl) (by kernel_rfl) (fun a w h => ?_) ⟨1, rfl⟩ ?_
    · simp only [Exit.then] at h
      exact absurd h.1 (by simp)
    repeat (go_big_quiet_step (fail))
    refine wpQuiet_nil ?_
    rintro _ ⟨m, rfl⟩
    gi_wp2
    refine ⟨by simp, .inl ⟨_, _, rfl, run_takeDeferred (w := W.drewN m) hDD, ?_⟩⟩
    refine ⟨_, results_tmp2 rfl _ _ _, ?_, ?_⟩
    · rw [HF.out]; rfl
    · have hkk := HK.out
      refine HBW.out.trans ⟨hkk.os, hkk.tape, hkk.output, by simpa using hkk.size, fun k hk => ?_⟩
      rw [World.putObj_heap_other (by omega)]
      exact hkk.block k (by omega) (by simp; omega)
end Go.Proofs.YtgbmmelkagcbdaaDoor
