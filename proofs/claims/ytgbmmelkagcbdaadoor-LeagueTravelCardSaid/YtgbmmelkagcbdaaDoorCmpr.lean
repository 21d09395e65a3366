/- The comparisons of Table: contracts of walks that lay blocks and draw, and do nothing else. -/
import Derived.Test.YtgbmmelkagcbdaaDoorRwsc
import Derived.Shelf.SlSortCmp.SmallK
namespace Go.Proofs.YtgbmmelkagcbdaaDoor
open Go.RowKit Go Go.Shelf Go.Sort
/-- Blocks behind the world, and draws. -/
def Gr (w w' : World) : Prop := ∃ q os, w' = grow (w.drewN q) os
theorem Gr.refl (w : World) : Gr w w := ⟨0, #[], (grow_empty _).symm⟩
theorem grow_drewN (w : World) (os : Array Obj) (q : Nat) : (grow w os).drewN q = grow (w.drewN q) os := rfl
theorem Gr.trans {a b c : World} (h : Gr a b) (k : Gr b c) : Gr a c := by
  obtain ⟨q, os, rfl⟩ := h
  obtain ⟨q', os', rfl⟩ := k
  exact ⟨q + q', os ++ os', by rw [grow_drewN, grow_grow, World.drewN_drewN]⟩
theorem Gr.alloc {a b : World} (h : Gr a b) (o : Obj) : Gr a (b.alloc o) := h.trans ⟨0, #[o], by rw [alloc_eq_grow]; rfl⟩
theorem Gr.drewN {a b : World} (h : Gr a b) (n : Nat) : Gr a (b.drewN n) := h.trans ⟨n, #[], (grow_empty _).symm⟩
theorem Gr.drew {a b : World} (h : Gr a b) : Gr a b.drew := h.drewN 1
theorem Gr.below {a b : World} (h : Gr a b) : Below a.heap.size a b := by
  obtain ⟨q, os, rfl⟩ := h
  refine (below_drewN (Below.refl _ _) q).grown (row := none) ⟨rfl, rfl, rfl, by simp [grow], fun k hk _ => ?_⟩ (Nat.le_refl _) (fun k e => by cases e)
  show ((a.drewN q).heap ++ os)[k]? = _
  rw [Array.getElem?_append_left hk]
def key (j : Nat) (r : Rw) : Int := match j with
  | 25 => r.p
  | 26 => r.m
  | 27 => wrap64 (r.f - r.a)
  | 28 => r.f
  | _ => wrap64 (-r.t)
set_option maxRecDepth 100000 in
theorem key_25 (r : Rw) (w : World) : Calls Tryd.prog 25 #[.agg r.cells.toArray] w fun e w' => e = .returned (.int .i64 (key 25 r)) ∧ Gr w w' := by
  unfold Rw.cells
  go_enter Tryd.func25, Tryd.ntmps25
  go_wp2
  go_returns
  exact ⟨rfl, (Gr.refl _).alloc _⟩
set_option maxRecDepth 100000 in
theorem key_26 (r : Rw) (w : World) : Calls Tryd.prog 26 #[.agg r.cells.toArray] w fun e w' => e = .returned (.int .i64 (key 26 r)) ∧ Gr w w' := by
  unfold Rw.cells
  go_enter Tryd.func26, Tryd.ntmps26
  go_wp2
  go_returns
  exact ⟨rfl, (Gr.refl _).alloc _⟩
set_option maxRecDepth 100000 in
theorem key_27 (r : Rw) (w : World) : Calls Tryd.prog 27 #[.agg r.cells.toArray] w fun e w' => e = .returned (.int .i64 (key 27 r)) ∧ Gr w w' := by
  unfold Rw.cells
  go_enter Tryd.func27, Tryd.ntmps27
  go_wp2
  go_returns
  exact ⟨rfl, (Gr.refl _).alloc _⟩
set_option maxRecDepth 100000 in
theorem key_28 (r : Rw) (w : World) : Calls Tryd.prog 28 #[.agg r.cells.toArray] w fun e w' => e = .returned (.int .i64 (key 28 r)) ∧ Gr w w' := by
  unfold Rw.cells
  go_enter Tryd.func28, Tryd.ntmps28
  go_wp2
  go_returns
  exact ⟨rfl, (Gr.refl _).alloc _⟩
set_option maxRecDepth 100000 in
theorem key_29 (r : Rw) (w : World) : Calls Tryd.prog 29 #[.agg r.cells.toArray] w fun e w' => e = .returned (.int .i64 (key 29 r)) ∧ Gr w w' := by
  unfold Rw.cells
  go_enter Tryd.func29, Tryd.ntmps29
  go_wp2
  go_returns
  exact ⟨rfl, (Gr.refl _).alloc _⟩
theorem nan_any (x : Int) (w : World) : Calls Tryd.prog 42 #[.int .i64 x] w fun e w' => e = .returned (.bool false) ∧ w = w' := by
  go_enter Tryd.func42, Tryd.ntmps42
  go_wp2
  go_returns
  exact ⟨by simp, rfl⟩
def cmpI (x y : Int) : Int := if x < y then -1 else if y < x then 1 else 0
theorem compare_any (x y : Int) (w : World) : Calls Tryd.prog 23 #[.int .i64 x, .int .i64 y] w fun e w' => e = .returned (.int .i64 (cmpI x y)) ∧ w = w' := by
  have h : decide (x < y) = true ∨ decide (x < y) = false ∧ decide (y < x) = true ∨ decide (x < y) = false ∧ decide (y < x) = false := by cases decide (x < y) <;> cases decide (y < x) <;> simp
  rcases h with h | ⟨h, h'⟩ | ⟨h, h'⟩ <;>
  · go_enter Tryd.func23, Tryd.ntmps23
    go_wp2_with (go_at_call 42; refine (nan_any _ _).mono ?_; rintro e w' ⟨rfl, rfl⟩)
    go_returns
    refine ⟨ret_int ?_, rfl⟩
    simp at *
    simp [cmpI, *] <;> omega
end Go.Proofs.YtgbmmelkagcbdaaDoor
