/- Standings of the same table, and awake. -/
import Derived.Test.YtgbmmelkagcbdaaDoorNeed
namespace Go.Proofs.YtgbmmelkagcbdaaDoor
open Go.RowKit Go Go.Shelf
theorem table_cells {w : World} {g : Nat} (h : RowAt w w.heap.size (some ⟨g, 0, none⟩) tableS) : g < w.heap.size ∧ ∀ j v, tableS[j]? = some v → w.cell? ⟨g, j, none⟩ = some v := by
  rcases h with h | ⟨b, o, e, hlt, hc⟩
  · cases h
  · obtain ⟨rfl, rfl⟩ : g = b ∧ 0 = o := by simpa using e
    exact ⟨hlt, fun j v hv => by have := hc j v hv; rwa [Nat.zero_add] at this⟩
set_option maxRecDepth 100000 in
set_option maxHeartbeats 4000000 in
theorem standings_eq (ga gb c1 c2 : Nat) (w : World) (h1 : RowAt w w.heap.size (some ⟨ga, 0, none⟩) tableS) (h2 : RowAt w w.heap.size (some ⟨gb, 0, none⟩) tableS) :
    Calls Tryd.prog 13 #[.slice (some ⟨ga, 0, none⟩) 3 c1, .slice (some ⟨gb, 0, none⟩) 3 c2] w fun e w' => e = .returned (.bool true) ∧ Below w.heap.size w w' := by
  obtain ⟨z1, k1⟩ := table_cells h1
  obtain ⟨z2, k2⟩ := table_cells h2
  have a0 := k1 0 _ rfl
  have b0 := k2 0 _ rfl
  have a1 := k1 1 _ rfl
  have b1 := k2 1 _ rfl
  have a2 := k1 2 _ rfl
  have b2 := k2 2 _ rfl
  have a3 := k1 3 _ rfl
  have b3 := k2 3 _ rfl
  have a4 := k1 4 _ rfl
  have b4 := k2 4 _ rfl
  have a5 := k1 5 _ rfl
  have b5 := k2 5 _ rfl
  have a6 := k1 6 _ rfl
  have b6 := k2 6 _ rfl
  have a7 := k1 7 _ rfl
  have b7 := k2 7 _ rfl
  have a8 := k1 8 _ rfl
  have b8 := k2 8 _ rfl
  have a9 := k1 9 _ rfl
  have b9 := k2 9 _ rfl
  have a10 := k1 10 _ rfl
  have b10 := k2 10 _ rfl
  have a11 := k1 11 _ rfl
  have b11 := k2 11 _ rfl
  have a12 := k1 12 _ rfl
  have b12 := k2 12 _ rfl
  have a13 := k1 13 _ rfl
  have b13 := k2 13 _ rfl
  have a14 := k1 14 _ rfl
  have b14 := k2 14 _ rfl
  clear h1 h2 k1 k2
  go_enter Tryd.func13, Tryd.ntmps13
  go_wp2
  refine wp_loop_rounds 4 ?_
  rw [rounds_succ]; go_wp2
  go_quiet (fail)
  go_wp2
  rw [rounds_succ]; go_wp2
  go_quiet (fail)
  go_wp2
  rw [rounds_succ]; go_wp2
  go_quiet (fail)
  go_wp2
  rw [rounds_succ]; go_wp2
  go_ret
  exact ⟨rfl, below_drewN (Below.refl _ _) _⟩
theorem fine_smp : Fine smp.gs := by
  refine ⟨fun k g h h1 h2 => ?_, fun i k g h hki h1 h2 => ?_⟩
  · have hk : k + 1 < 5 := (List.getElem?_eq_some_iff.1 h2).1
    have : k = 0 ∨ k = 1 ∨ k = 2 ∨ k = 3 := by omega
    rcases this with rfl | rfl | rfl | rfl <;> (simp [smp] at h1 h2; subst h1; subst h2; decide)
  · have hk : i < 5 := (List.getElem?_eq_some_iff.1 h1).1
    have : i = 0 ∨ i = 1 ∨ i = 2 ∨ i = 3 ∨ i = 4 := by omega
    have hk2 : k = 0 ∨ k = 1 ∨ k = 2 ∨ k = 3 := by omega
    rcases this with rfl | rfl | rfl | rfl | rfl <;> rcases hk2 with rfl | rfl | rfl | rfl <;> first | omega | (simp [smp] at h1 h2; subst h1; subst h2; decide)
theorem table_keep {W W' : World} {g : Nat} (h : RowAt W W.heap.size (some ⟨g, 0, none⟩) tableS) (hb : Below W.heap.size W W') : RowAt W' W'.heap.size (some ⟨g, 0, none⟩) tableS := (h.below hb).more hb.size
theorem table_own (W : World) : RowAt (W.alloc (.cells tableS.toArray 45)) (W.alloc (.cells tableS.toArray 45)).heap.size (some ⟨W.heap.size, 0, none⟩) tableS := by
  refine .inr ⟨_, 0, rfl, by simp, fun j u hj => ?_⟩
  rw [Nat.zero_add]
  simp only [World.cell?, World.alloc_heap_new]
  simpa using hj
/-- The world behind the sample's box. -/
structure Aw (A1 A2 : Option Addr) (c1 c2 B : Nat) (w W : World) : Prop where
  below : Below w.heap.size w W
  size : B < W.heap.size
  c0 : W.cell? ⟨B, 0, none⟩ = some (.slice A1 3 c1)
  c1' : W.cell? ⟨B, 1, none⟩ = some (.slice A2 5 c2)
  at_ : LgAt W W.heap.size A1 A2 smp
  pts : Pts W
theorem Aw.keep {A1 A2 : Option Addr} {c1 c2 B : Nat} {w W W' : World} (h : Aw A1 A2 c1 c2 B w W) (hb : Below W.heap.size W W') : Aw A1 A2 c1 c2 B w W' :=
  ⟨h.below.trans (hb.mono h.below.size), Nat.lt_of_lt_of_le h.size hb.size, (bcell hb _ _ h.size).trans h.c0, (bcell hb _ _ h.size).trans h.c1', (h.at_.below hb).more hb.size, h.pts.below hb (by have := h.pts.1; omega)⟩
set_option maxRecDepth 100000 in
set_option maxHeartbeats 4000000 in
theorem awake_ok : AwakeSaid := by
  intro w hp
  have HP := Lib.hid hp
  have hw1 := hp.1
  clear hp
  go_enter Tryd.func5, Tryd.ntmps5
  go_upto_region 2 with (go_at_call 8; refine (sample_at _).mono ?_; rintro e w1 ⟨hb1, A1, A2, c1, c2, rfl, hl, h5⟩)
  obtain ⟨W2, hW2⟩ : ∃ W2, w1.alloc (.cells #[.slice A1 3 c1, .slice A2 5 c2] 25) = W2 := ⟨_, rfl⟩
  have hb2 : Below w1.heap.size w1 W2 := by rw [← hW2]; exact (Below.refl _ _).alloc (Nat.le_refl _) _
  have A0 : Hid (Aw A1 A2 c1 c2 w1.heap.size w W2) := Lib.hid ⟨hb1.trans (hb2.mono hb1.size), by rw [← hW2]; simp, by rw [← hW2]; simp, by rw [← hW2]; simp, (hl.below hb2).more hb2.size, (HP.out.below hb1 (by omega)).below hb2 (by have := hb1.size; omega)⟩
  have q0 := A0.out.c0
  have q1 := A0.out.c1'
  have qs := A0.out.size
  simp only [hW2]
  clear hW2 hb2 hl hb1
  go_upto_region 3 with (go_at_call 9; refine (check_fine A1 A2 c1 c2 smp _ A0.out.at_ smp_league fine_smp h5).mono ?_; rintro e w3 ⟨rfl, hb3⟩; have A3 := Lib.hid (A0.out.keep hb3); clear q0 q1 qs; have q0 := A3.out.c0; have q1 := A3.out.c1'; have qs := A3.out.size)
  go_upto_region 4 with (go_at_call 6; refine (travel_ok A1 A2 c1 c2 smp 0 _ A3.out.at_ smp_league (by decide) (by decide)).mono ?_; rintro e w4 ⟨rfl, hb4⟩; have A4 := Lib.hid (A3.out.keep hb4); clear q0 q1 qs; have q0 := A4.out.c0; have q1 := A4.out.c1'; have qs := A4.out.size; rw [smp_travel])
  go_upto_region 5 with (go_at_call 10; refine (table_walk A1 A2 c1 c2 _ A4.out.at_ A4.out.pts).mono ?_; rintro e w5 ⟨hb5, gt, ct, rfl, ht⟩; have A5 := Lib.hid (A4.out.keep hb5); have HT := Lib.hid ht; clear ht; clear q0 q1 qs; have q0 := A5.out.c0; have q1 := A5.out.c1'; have qs := A5.out.size)
  go_upto_region 6 with (go_at_call 11; refine (clinched_smp A1 A2 c1 c2 _ A5.out.at_ A5.out.pts).mono ?_; rintro e w6 ⟨rfl, hb6⟩; have A6 := Lib.hid (A5.out.keep hb6); clear q0 q1 qs; have q0 := A6.out.c0; have q1 := A6.out.c1'; have qs := A6.out.size)
  go_upto_region 7 with (go_at_call 12; refine (needs_smp A1 A2 c1 c2 _ A6.out.at_ A6.out.pts).mono ?_; rintro e w7 ⟨rfl, hb7⟩; have A7 := Lib.hid (A6.out.keep hb7); clear q0 q1 qs)
  have HT7 := Lib.hid (table_keep HT.out (hb6.trans (hb7.mono hb6.size)))
  have hs7 : w5.heap.size ≤ w7.heap.size := Nat.le_trans hb6.size hb7.size
  clear hb3 hb4 hb5 hb6 hb7
  go_wp2_with (go_at_call 13; refine (standings_eq gt w7.heap.size ct 3 _ (table_keep HT7.out (by go_grown)) (table_own _)).mono ?_; rintro e w8 ⟨rfl, hb8⟩)
  go_ret
  exact ⟨rfl, (A7.out.keep (below_box hb8)).below⟩
end Go.Proofs.YtgbmmelkagcbdaaDoor
