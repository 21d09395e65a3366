/- The sample league, and what lies ready for awake. -/
import Derived.Test.YtgbmmelkagcbdaaDoorRest
import Derived.Handy
namespace Go.Proofs.YtgbmmelkagcbdaaDoor
open Go.RowKit Go Go.Shelf
def smp : Lg := ⟨[[0, 10, 20], [10, 0, 5], [20, 5, 0]], [⟨1, 0, 1, 1, 3, 1⟩, ⟨2, 1, 2, 2, 2, 1⟩, ⟨4, 2, 0, 1, 4, 2⟩, ⟨6, 0, 2, 0, 0, 0⟩, ⟨8, 1, 0, 0, 0, 0⟩]⟩
theorem smp_league : leagueB smp = true := by decide
theorem smp_travel : travel smp 0 = 60 := by decide
set_option maxRecDepth 100000 in
set_option maxHeartbeats 4000000 in
theorem sample_at (w : World) : Calls Tryd.prog 8 #[] w fun e w' => Below w.heap.size w w' ∧ ∃ A1 A2 c1 c2, e = .returned (lgv A1 3 c1 A2 5 c2) ∧ LgAt w' w'.heap.size A1 A2 smp ∧ 5 ≤ c2 := by
  go_enter Tryd.func8, Tryd.ntmps8
  go_wp2
  go_returns
  refine ⟨by go_grown, _, _, _, _, rfl, ⟨?_, ?_, by decide, by decide, by decide⟩, Nat.le_refl _⟩
  · refine .inr ⟨_, 0, rfl, by simp, fun i r hr => ?_⟩
    rcases i with _ | _ | _ | i
    · obtain rfl : [0, 10, 20] = r := by simpa [smp] using hr
      refine ⟨some ⟨w.heap.size + 1, 0, none⟩, 3, by simp [go_sem], .inr ⟨_, 0, rfl, by simp, fun j u hj => ?_⟩⟩
      rcases j with _ | _ | _ | j <;> simp [i64s] at hj <;> subst hj <;> simp [go_sem]
    · obtain rfl : [10, 0, 5] = r := by simpa [smp] using hr
      refine ⟨some ⟨w.heap.size + 1 + 1, 0, none⟩, 3, by simp [go_sem], .inr ⟨_, 0, rfl, by simp, fun j u hj => ?_⟩⟩
      rcases j with _ | _ | _ | j <;> simp [i64s] at hj <;> subst hj <;> simp [go_sem]
    · obtain rfl : [20, 5, 0] = r := by simpa [smp] using hr
      refine ⟨some ⟨w.heap.size + 1 + 1 + 1, 0, none⟩, 3, by simp [go_sem], .inr ⟨_, 0, rfl, by simp, fun j u hj => ?_⟩⟩
      rcases j with _ | _ | _ | j <;> simp [i64s] at hj <;> subst hj <;> simp [go_sem]
    · simp [smp] at hr
  · refine .inr ⟨_, 0, rfl, by simp, fun j u hj => ?_⟩
    have hlt : j < 30 := by
      have := (List.getElem?_eq_some_iff.1 hj).1
      simpa [gcells, smp, Gm.cells] using this
    have key : ∀ (cs : Array Value) (W : World) (n : Nat), W.heap.size = n → cs[j]? = some u → (W.alloc (.cells cs 33)).cell? ⟨n, 0 + j, none⟩ = some u := by
      intro cs W n hn h
      subst hn
      rw [Nat.zero_add]
      simp only [World.cell?, World.alloc_heap_new]; simpa using h
    refine key _ _ _ (by simp) ?_
    rw [← hj]
    simp [gcells, smp, Gm.cells]
end Go.Proofs.YtgbmmelkagcbdaaDoor
