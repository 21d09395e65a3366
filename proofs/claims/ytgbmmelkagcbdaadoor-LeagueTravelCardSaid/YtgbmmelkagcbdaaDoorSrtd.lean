/- sorted: its walk. -/
import Derived.Test.YtgbmmelkagcbdaaDoorSort
namespace Go.Proofs.YtgbmmelkagcbdaaDoor
open Go.RowKit Go Go.Shelf Go.Sort
def sortRows (R : List Rw) : List Rw := (Sort.insertionSort (ltOf rowCmp) R.toArray 0 R.toArray.size).toList
theorem sort_smp : sortRows (rowsS smp) = [⟨2, 2, 4, 5, 4, 0⟩, ⟨0, 2, 3, 5, 5, 0⟩, ⟨1, 2, 2, 3, 4, 0⟩] := by kernel_rfl
theorem sort_smp_size : (Sort.insertionSort (ltOf rowCmp) (rowsS smp).toArray 0 (rowsS smp).length).size = (rowsS smp).length := by kernel_rfl
structure ByEl (w : World) (ba f0 f1 f2 f3 f4 : Nat) : Prop where
  a0 : w.cell? ⟨ba, 0, none⟩ = some (.func (.func 22) #[] #[.pointer (some ⟨f0, 0, none⟩)])
  a1 : w.cell? ⟨ba, 1, none⟩ = some (.func (.func 22) #[] #[.pointer (some ⟨f1, 0, none⟩)])
  a2 : w.cell? ⟨ba, 2, none⟩ = some (.func (.func 22) #[] #[.pointer (some ⟨f2, 0, none⟩)])
  a3 : w.cell? ⟨ba, 3, none⟩ = some (.func (.func 22) #[] #[.pointer (some ⟨f3, 0, none⟩)])
  a4 : w.cell? ⟨ba, 4, none⟩ = some (.func (.func 22) #[] #[.pointer (some ⟨f4, 0, none⟩)])
  b0 : w.cell? ⟨f0, 0, none⟩ = some (.func (.func 25) #[] #[])
  b1 : w.cell? ⟨f1, 0, none⟩ = some (.func (.func 26) #[] #[])
  b2 : w.cell? ⟨f2, 0, none⟩ = some (.func (.func 27) #[] #[])
  b3 : w.cell? ⟨f3, 0, none⟩ = some (.func (.func 28) #[] #[])
  b4 : w.cell? ⟨f4, 0, none⟩ = some (.func (.func 29) #[] #[])
theorem ByEl.boxed {w : World} {ba f0 f1 f2 f3 f4 : Nat} (h : ByEl w ba f0 f1 f2 f3 f4) : ByAt (w.alloc (.cells #[.slice (some ⟨ba, 0, none⟩) 5 5] 80)) w.heap.size ba f0 f1 f2 f3 f4 :=
  have hg : Gr w (w.alloc (.cells #[.slice (some ⟨ba, 0, none⟩) 5 5] 80)) := (Gr.refl _).alloc _
  ⟨by simp, hg.at_ h.a0, hg.at_ h.a1, hg.at_ h.a2, hg.at_ h.a3, hg.at_ h.a4, hg.at_ h.b0, hg.at_ h.b1, hg.at_ h.b2, hg.at_ h.b3, hg.at_ h.b4⟩
set_option maxRecDepth 100000 in
set_option maxHeartbeats 4000000 in
theorem sorted_any (g ba f0 f1 f2 f3 f4 cap : Nat) (R : List Rw) (w : World) (hR : RAt w g R) (hE : ByEl w ba f0 f1 f2 f3 f4) (n : ba ≠ g ∧ f0 ≠ g ∧ f1 ≠ g ∧ f2 ≠ g ∧ f3 ≠ g ∧ f4 ≠ g) (h12 : R.length ≤ 12) (hsz : (Sort.insertionSort (ltOf rowCmp) R.toArray 0 R.length).size = R.length) :
    Calls Tryd.prog 24 #[.slice (some ⟨g, 0, none⟩) R.length cap, .slice (some ⟨ba, 0, none⟩) 5 5] w fun e w' => e = .returned (.tuple #[]) ∧ RCells w' g (sortRows R) ∧ w.grownBy w' (some g) := by
  have hg : g < w.heap.size := (Array.getElem?_eq_some_iff.1 hR).1
  have hR1 : RAt (w.alloc (.cells #[.slice (some ⟨ba, 0, none⟩) 5 5] 80)) g R := (Below.heap_alloc _ _ _ hg).trans hR
  have eg : ∀ args w, (callFunc 44 args).run Tryd.prog w = .ok (.enter 44 args) w := enters_of Tryd.func44 (by kernel_rfl) rfl
  have hcon := AnyQ.slices_SortFunc_small sortRow 6 agg58 size58 Rw.cells cells6 one6 rowCmp 44 #[.pointer (some ⟨w.heap.size, 0, none⟩)] g 0 cap R.toArray (w.alloc (.cells #[.slice (some ⟨ba, 0, none⟩) 5 5] 80)) eg (lays44 _ hE.boxed ⟨by omega, n.1, n.2.1, n.2.2.1, n.2.2.2.1, n.2.2.2.2.1, n.2.2.2.2.2⟩) hR1.holds (by simp; omega) (by simpa using h12) hlen48
  change Calls Tryd.prog 43 _ _ _ at hcon
  rw [show R.toArray.size = R.length by simp] at hcon
  have HR := Lib.hid hR1
  have HS := Lib.hid hsz
  have hgr := grownBy_trans (World.grownBy_alloc w (.cells #[.slice (some ⟨ba, 0, none⟩) 5 5] 80) (some g)) (World.grownBy.refl _ _)
  have HG := Lib.hid hgr
  have e : sortRows R = (Sort.insertionSort (ltOf rowCmp) R.toArray 0 R.length).toList := by unfold sortRows; simp
  rw [e]
  generalize Sort.insertionSort (ltOf rowCmp) R.toArray 0 R.length = d at hcon HS ⊢
  clear hR hE hR1 hsz hgr e eg
  go_enter Tryd.func24, Tryd.ntmps24
  go_wp2_with (go_at_call 43; refine hcon.mono ?_; rintro e w' ⟨rfl, n, os, rfl⟩)
  go_returns
  exact ⟨rfl, rcells_sw HR.out _ _ HS.out _, grownBy_trans HG.out (grown_sw _ _ _ _ _)⟩
end Go.Proofs.YtgbmmelkagcbdaaDoor
