/- The comparisons of Table, one key each. -/
import Derived.Test.YtgbmmelkagcbdaaDoorCmpr
import Derived.Deep.RegionHeld3
namespace Go.Proofs.YtgbmmelkagcbdaaDoor
open Go.RowKit Go Go.Shelf Go.Sort
theorem Gr.cells {a b : World} (h : Gr a b) : ∀ k o, k < a.heap.size → b.cell? ⟨k, o, none⟩ = a.cell? ⟨k, o, none⟩ := bcell h.below
theorem Gr.size {a b : World} (h : Gr a b) : a.heap.size ≤ b.heap.size := h.below.size
set_option maxRecDepth 100000 in
set_option maxHeartbeats 4000000 in
theorem more_25 (bf : Nat) (a b : Rw) (w : World) (hf : w.cell? ⟨bf, 0, none⟩ = some (.func (.func 25) #[] #[])) : Calls Tryd.prog 22 #[.agg a.cells.toArray, .agg b.cells.toArray, .pointer (some ⟨bf, 0, none⟩)] w fun e w' => e = .returned (.int .i64 (cmpI (key 25 b) (key 25 a))) ∧ Gr w w' := by
  have hlt : bf < w.heap.size := World.block_lt_of_cell? w _ hf
  unfold Rw.cells
  go_enter Tryd.func22, Tryd.ntmps22
  go_wp2
  go_region_held3 (fun w' => w'.cell? ⟨bf, 0, none⟩ = some (.func (.func 25) #[] #[]) ∧ (w'.cell? ⟨w.heap.size, 0, none⟩ = some (.int .i64 a.t) ∧ w'.cell? ⟨w.heap.size, 1, none⟩ = some (.int .i64 a.n) ∧ w'.cell? ⟨w.heap.size, 2, none⟩ = some (.int .i64 a.p) ∧ w'.cell? ⟨w.heap.size, 3, none⟩ = some (.int .i64 a.f) ∧ w'.cell? ⟨w.heap.size, 4, none⟩ = some (.int .i64 a.a) ∧ w'.cell? ⟨w.heap.size, 5, none⟩ = some (.int .i64 a.m)) ∧
      (w'.cell? ⟨w.heap.size + 1, 0, none⟩ = some (.int .i64 b.t) ∧ w'.cell? ⟨w.heap.size + 1, 1, none⟩ = some (.int .i64 b.n) ∧ w'.cell? ⟨w.heap.size + 1, 2, none⟩ = some (.int .i64 b.p) ∧ w'.cell? ⟨w.heap.size + 1, 3, none⟩ = some (.int .i64 b.f) ∧ w'.cell? ⟨w.heap.size + 1, 4, none⟩ = some (.int .i64 b.a) ∧ w'.cell? ⟨w.heap.size + 1, 5, none⟩ = some (.int .i64 b.m)) ∧
      Gr w w' ∧ bf < w'.heap.size ∧ w.heap.size < w'.heap.size ∧ w.heap.size + 1 < w'.heap.size)
    (first | (refine ⟨?_, ⟨?_, ?_, ?_, ?_, ?_, ?_⟩, ⟨?_, ?_, ?_, ?_, ?_, ?_⟩, ?_, ?_, ?_, ?_⟩ <;> first | exact (((Gr.refl _).alloc _).alloc _).drew | (simp [go_sem, *]; done) | (simp; omega)) | (go_split_ands; refine ⟨?_, ⟨?_, ?_, ?_, ?_, ?_, ?_⟩, ⟨?_, ?_, ?_, ?_, ?_, ?_⟩, ?_, ?_, ?_, ?_⟩ <;> first | (rw [hc _ _ (by assumption)]; assumption) | (exact Gr.trans (by assumption) hg) | omega))
    ((first
      | (go_at_call 25; refine (key_25 _ _).mono ?_; rintro e w1 ⟨rfl, hg⟩; have hc := hg.cells; have hz := hg.size)
      | (go_at_call 23; refine (compare_any _ _ _).mono ?_; rintro e w1 ⟨rfl, rfl⟩; have hg := Gr.refl w1; have hc := hg.cells; have hz := hg.size)))
  all_goals (go_wp2; go_returns; go_split_ands; exact ⟨rfl, by assumption⟩)
set_option maxRecDepth 100000 in
set_option maxHeartbeats 4000000 in
theorem more_26 (bf : Nat) (a b : Rw) (w : World) (hf : w.cell? ⟨bf, 0, none⟩ = some (.func (.func 26) #[] #[])) : Calls Tryd.prog 22 #[.agg a.cells.toArray, .agg b.cells.toArray, .pointer (some ⟨bf, 0, none⟩)] w fun e w' => e = .returned (.int .i64 (cmpI (key 26 b) (key 26 a))) ∧ Gr w w' := by
  have hlt : bf < w.heap.size := World.block_lt_of_cell? w _ hf
  unfold Rw.cells
  go_enter Tryd.func22, Tryd.ntmps22
  go_wp2
  go_region_held3 (fun w' => w'.cell? ⟨bf, 0, none⟩ = some (.func (.func 26) #[] #[]) ∧ (w'.cell? ⟨w.heap.size, 0, none⟩ = some (.int .i64 a.t) ∧ w'.cell? ⟨w.heap.size, 1, none⟩ = some (.int .i64 a.n) ∧ w'.cell? ⟨w.heap.size, 2, none⟩ = some (.int .i64 a.p) ∧ w'.cell? ⟨w.heap.size, 3, none⟩ = some (.int .i64 a.f) ∧ w'.cell? ⟨w.heap.size, 4, none⟩ = some (.int .i64 a.a) ∧ w'.cell? ⟨w.heap.size, 5, none⟩ = some (.int .i64 a.m)) ∧
      (w'.cell? ⟨w.heap.size + 1, 0, none⟩ = some (.int .i64 b.t) ∧ w'.cell? ⟨w.heap.size + 1, 1, none⟩ = some (.int .i64 b.n) ∧ w'.cell? ⟨w.heap.size + 1, 2, none⟩ = some (.int .i64 b.p) ∧ w'.cell? ⟨w.heap.size + 1, 3, none⟩ = some (.int .i64 b.f) ∧ w'.cell? ⟨w.heap.size + 1, 4, none⟩ = some (.int .i64 b.a) ∧ w'.cell? ⟨w.heap.size + 1, 5, none⟩ = some (.int .i64 b.m)) ∧
      Gr w w' ∧ bf < w'.heap.size ∧ w.heap.size < w'.heap.size ∧ w.heap.size + 1 < w'.heap.size)
    (first | (refine ⟨?_, ⟨?_, ?_, ?_, ?_, ?_, ?_⟩, ⟨?_, ?_, ?_, ?_, ?_, ?_⟩, ?_, ?_, ?_, ?_⟩ <;> first | exact (((Gr.refl _).alloc _).alloc _).drew | (simp [go_sem, *]; done) | (simp; omega)) | (go_split_ands; refine ⟨?_, ⟨?_, ?_, ?_, ?_, ?_, ?_⟩, ⟨?_, ?_, ?_, ?_, ?_, ?_⟩, ?_, ?_, ?_, ?_⟩ <;> first | (rw [hc _ _ (by assumption)]; assumption) | (exact Gr.trans (by assumption) hg) | omega))
    ((first
      | (go_at_call 26; refine (key_26 _ _).mono ?_; rintro e w1 ⟨rfl, hg⟩; have hc := hg.cells; have hz := hg.size)
      | (go_at_call 23; refine (compare_any _ _ _).mono ?_; rintro e w1 ⟨rfl, rfl⟩; have hg := Gr.refl w1; have hc := hg.cells; have hz := hg.size)))
  all_goals (go_wp2; go_returns; go_split_ands; exact ⟨rfl, by assumption⟩)
set_option maxRecDepth 100000 in
set_option maxHeartbeats 4000000 in
theorem more_27 (bf : Nat) (a b : Rw) (w : World) (hf : w.cell? ⟨bf, 0, none⟩ = some (.func (.func 27) #[] #[])) : Calls Tryd.prog 22 #[.agg a.cells.toArray, .agg b.cells.toArray, .pointer (some ⟨bf, 0, none⟩)] w fun e w' => e = .returned (.int .i64 (cmpI (key 27 b) (key 27 a))) ∧ Gr w w' := by
  have hlt : bf < w.heap.size := World.block_lt_of_cell? w _ hf
  unfold Rw.cells
  go_enter Tryd.func22, Tryd.ntmps22
  go_wp2
  go_region_held3 (fun w' => w'.cell? ⟨bf, 0, none⟩ = some (.func (.func 27) #[] #[]) ∧ (w'.cell? ⟨w.heap.size, 0, none⟩ = some (.int .i64 a.t) ∧ w'.cell? ⟨w.heap.size, 1, none⟩ = some (.int .i64 a.n) ∧ w'.cell? ⟨w.heap.size, 2, none⟩ = some (.int .i64 a.p) ∧ w'.cell? ⟨w.heap.size, 3, none⟩ = some (.int .i64 a.f) ∧ w'.cell? ⟨w.heap.size, 4, none⟩ = some (.int .i64 a.a) ∧ w'.cell? ⟨w.heap.size, 5, none⟩ = some (.int .i64 a.m)) ∧
      (w'.cell? ⟨w.heap.size + 1, 0, none⟩ = some (.int .i64 b.t) ∧ w'.cell? ⟨w.heap.size + 1, 1, none⟩ = some (.int .i64 b.n) ∧ w'.cell? ⟨w.heap.size + 1, 2, none⟩ = some (.int .i64 b.p) ∧ w'.cell? ⟨w.heap.size + 1, 3, none⟩ = some (.int .i64 b.f) ∧ w'.cell? ⟨w.heap.size + 1, 4, none⟩ = some (.int .i64 b.a) ∧ w'.cell? ⟨w.heap.size + 1, 5, none⟩ = some (.int .i64 b.m)) ∧
      Gr w w' ∧ bf < w'.heap.size ∧ w.heap.size < w'.heap.size ∧ w.heap.size + 1 < w'.heap.size)
    (first | (refine ⟨?_, ⟨?_, ?_, ?_, ?_, ?_, ?_⟩, ⟨?_, ?_, ?_, ?_, ?_, ?_⟩, ?_, ?_, ?_, ?_⟩ <;> first | exact (((Gr.refl _).alloc _).alloc _).drew | (simp [go_sem, *]; done) | (simp; omega)) | (go_split_ands; refine ⟨?_, ⟨?_, ?_, ?_, ?_, ?_, ?_⟩, ⟨?_, ?_, ?_, ?_, ?_, ?_⟩, ?_, ?_, ?_, ?_⟩ <;> first | (rw [hc _ _ (by assumption)]; assumption) | (exact Gr.trans (by assumption) hg) | omega))
    ((first
      | (go_at_call 27; refine (key_27 _ _).mono ?_; rintro e w1 ⟨rfl, hg⟩; have hc := hg.cells; have hz := hg.size)
      | (go_at_call 23; refine (compare_any _ _ _).mono ?_; rintro e w1 ⟨rfl, rfl⟩; have hg := Gr.refl w1; have hc := hg.cells; have hz := hg.size)))
  all_goals (go_wp2; go_returns; go_split_ands; exact ⟨rfl, by assumption⟩)
set_option maxRecDepth 100000 in
set_option maxHeartbeats 4000000 in
theorem more_28 (bf : Nat) (a b : Rw) (w : World) (hf : w.cell? ⟨bf, 0, none⟩ = some (.func (.func 28) #[] #[])) : Calls Tryd.prog 22 #[.agg a.cells.toArray, .agg b.cells.toArray, .pointer (some ⟨bf, 0, none⟩)] w fun e w' => e = .returned (.int .i64 (cmpI (key 28 b) (key 28 a))) ∧ Gr w w' := by
  have hlt : bf < w.heap.size := World.block_lt_of_cell? w _ hf
  unfold Rw.cells
  go_enter Tryd.func22, Tryd.ntmps22
  go_wp2
  go_region_held3 (fun w' => w'.cell? ⟨bf, 0, none⟩ = some (.func (.func 28) #[] #[]) ∧ (w'.cell? ⟨w.heap.size, 0, none⟩ = some (.int .i64 a.t) ∧ w'.cell? ⟨w.heap.size, 1, none⟩ = some (.int .i64 a.n) ∧ w'.cell? ⟨w.heap.size, 2, none⟩ = some (.int .i64 a.p) ∧ w'.cell? ⟨w.heap.size, 3, none⟩ = some (.int .i64 a.f) ∧ w'.cell? ⟨w.heap.size, 4, none⟩ = some (.int .i64 a.a) ∧ w'.cell? ⟨w.heap.size, 5, none⟩ = some (.int .i64 a.m)) ∧
      (w'.cell? ⟨w.heap.size + 1, 0, none⟩ = some (.int .i64 b.t) ∧ w'.cell? ⟨w.heap.size + 1, 1, none⟩ = some (.int .i64 b.n) ∧ w'.cell? ⟨w.heap.size + 1, 2, none⟩ = some (.int .i64 b.p) ∧ w'.cell? ⟨w.heap.size + 1, 3, none⟩ = some (.int .i64 b.f) ∧ w'.cell? ⟨w.heap.size + 1, 4, none⟩ = some (.int .i64 b.a) ∧ w'.cell? ⟨w.heap.size + 1, 5, none⟩ = some (.int .i64 b.m)) ∧
      Gr w w' ∧ bf < w'.heap.size ∧ w.heap.size < w'.heap.size ∧ w.heap.size + 1 < w'.heap.size)
    (first | (refine ⟨?_, ⟨?_, ?_, ?_, ?_, ?_, ?_⟩, ⟨?_, ?_, ?_, ?_, ?_, ?_⟩, ?_, ?_, ?_, ?_⟩ <;> first | exact (((Gr.refl _).alloc _).alloc _).drew | (simp [go_sem, *]; done) | (simp; omega)) | (go_split_ands; refine ⟨?_, ⟨?_, ?_, ?_, ?_, ?_, ?_⟩, ⟨?_, ?_, ?_, ?_, ?_, ?_⟩, ?_, ?_, ?_, ?_⟩ <;> first | (rw [hc _ _ (by assumption)]; assumption) | (exact Gr.trans (by assumption) hg) | omega))
    ((first
      | (go_at_call 28; refine (key_28 _ _).mono ?_; rintro e w1 ⟨rfl, hg⟩; have hc := hg.cells; have hz := hg.size)
      | (go_at_call 23; refine (compare_any _ _ _).mono ?_; rintro e w1 ⟨rfl, rfl⟩; have hg := Gr.refl w1; have hc := hg.cells; have hz := hg.size)))
  all_goals (go_wp2; go_returns; go_split_ands; exact ⟨rfl, by assumption⟩)
set_option maxRecDepth 100000 in
set_option maxHeartbeats 4000000 in
theorem more_29 (bf : Nat) (a b : Rw) (w : World) (hf : w.cell? ⟨bf, 0, none⟩ = some (.func (.func 29) #[] #[])) : Calls Tryd.prog 22 #[.agg a.cells.toArray, .agg b.cells.toArray, .pointer (some ⟨bf, 0, none⟩)] w fun e w' => e = .returned (.int .i64 (cmpI (key 29 b) (key 29 a))) ∧ Gr w w' := by
  have hlt : bf < w.heap.size := World.block_lt_of_cell? w _ hf
  unfold Rw.cells
  go_enter Tryd.func22, Tryd.ntmps22
  go_wp2
  go_region_held3 (fun w' => w'.cell? ⟨bf, 0, none⟩ = some (.func (.func 29) #[] #[]) ∧ (w'.cell? ⟨w.heap.size, 0, none⟩ = some (.int .i64 a.t) ∧ w'.cell? ⟨w.heap.size, 1, none⟩ = some (.int .i64 a.n) ∧ w'.cell? ⟨w.heap.size, 2, none⟩ = some (.int .i64 a.p) ∧ w'.cell? ⟨w.heap.size, 3, none⟩ = some (.int .i64 a.f) ∧ w'.cell? ⟨w.heap.size, 4, none⟩ = some (.int .i64 a.a) ∧ w'.cell? ⟨w.heap.size, 5, none⟩ = some (.int .i64 a.m)) ∧
      (w'.cell? ⟨w.heap.size + 1, 0, none⟩ = some (.int .i64 b.t) ∧ w'.cell? ⟨w.heap.size + 1, 1, none⟩ = some (.int .i64 b.n) ∧ w'.cell? ⟨w.heap.size + 1, 2, none⟩ = some (.int .i64 b.p) ∧ w'.cell? ⟨w.heap.size + 1, 3, none⟩ = some (.int .i64 b.f) ∧ w'.cell? ⟨w.heap.size + 1, 4, none⟩ = some (.int .i64 b.a) ∧ w'.cell? ⟨w.heap.size + 1, 5, none⟩ = some (.int .i64 b.m)) ∧
      Gr w w' ∧ bf < w'.heap.size ∧ w.heap.size < w'.heap.size ∧ w.heap.size + 1 < w'.heap.size)
    (first | (refine ⟨?_, ⟨?_, ?_, ?_, ?_, ?_, ?_⟩, ⟨?_, ?_, ?_, ?_, ?_, ?_⟩, ?_, ?_, ?_, ?_⟩ <;> first | exact (((Gr.refl _).alloc _).alloc _).drew | (simp [go_sem, *]; done) | (simp; omega)) | (go_split_ands; refine ⟨?_, ⟨?_, ?_, ?_, ?_, ?_, ?_⟩, ⟨?_, ?_, ?_, ?_, ?_, ?_⟩, ?_, ?_, ?_, ?_⟩ <;> first | (rw [hc _ _ (by assumption)]; assumption) | (exact Gr.trans (by assumption) hg) | omega))
    ((first
      | (go_at_call 29; refine (key_29 _ _).mono ?_; rintro e w1 ⟨rfl, hg⟩; have hc := hg.cells; have hz := hg.size)
      | (go_at_call 23; refine (compare_any _ _ _).mono ?_; rintro e w1 ⟨rfl, rfl⟩; have hg := Gr.refl w1; have hc := hg.cells; have hz := hg.size)))
  all_goals (go_wp2; go_returns; go_split_ands; exact ⟨rfl, by assumption⟩)
end Go.Proofs.YtgbmmelkagcbdaaDoor
