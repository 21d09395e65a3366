/- sorted: the rows sorted. -/
import Derived.Test.YtgbmmelkagcbdaaDoorLaid
namespace Go.Proofs.YtgbmmelkagcbdaaDoor
open Go.RowKit Go Go.Shelf Go.Sort
instance : Inhabited Rw := ⟨⟨0, 0, 0, 0, 0, 0⟩⟩
theorem agg58 (w : World) : (isAgg 58).run Tryd.prog w = .ok true w := by kernel_rfl
theorem size58 (w : World) : (Go.sizeOf 58).run Tryd.prog w = .ok 6 w := by kernel_rfl
theorem sw_heap (w : World) (blk m : Nat) (dk : Array Rw) (os : Array Obj) {p : Nat} (hp : p ≠ blk) (hlt : p < w.heap.size) : (sortWorldK Rw.cells 6 w blk 0 m dk os).heap[p]? = w.heap[p]? := by
  unfold sortWorldK
  have hs : (putRowK Rw.cells 6 (Sort.ahead w m) blk 0 dk).heap.size = w.heap.size := by simp [putRowK, putRow, mapBlock, Sort.ahead]
  rw [heap_grow_old _ _ (by omega)]
  simp only [putRowK, putRow, mapBlock, Array.getElem?_modify]
  rw [if_neg (fun h => hp h.symm)]
  rfl
theorem sw_cell {w : World} {blk m : Nat} {dk : Array Rw} {os : Array Obj} {p o : Nat} {v : Value} (h : w.cell? ⟨p, o, none⟩ = some v) (hp : p ≠ blk) : (sortWorldK Rw.cells 6 w blk 0 m dk os).cell? ⟨p, o, none⟩ = some v := by
  rw [World.cell?_of_block (w := w) (a := ⟨p, o, none⟩) (sw_heap w blk m dk os hp (World.block_lt_of_cell? w _ h))]
  exact h
theorem ByAt.sw {w : World} {bb ba f0 f1 f2 f3 f4 blk m : Nat} {dk : Array Rw} {os : Array Obj} (h : ByAt w bb ba f0 f1 f2 f3 f4) (n : bb ≠ blk ∧ ba ≠ blk ∧ f0 ≠ blk ∧ f1 ≠ blk ∧ f2 ≠ blk ∧ f3 ≠ blk ∧ f4 ≠ blk) : ByAt (sortWorldK Rw.cells 6 w blk 0 m dk os) bb ba f0 f1 f2 f3 f4 :=
  ⟨sw_cell h.c n.1, sw_cell h.a0 n.2.1, sw_cell h.a1 n.2.1, sw_cell h.a2 n.2.1, sw_cell h.a3 n.2.1, sw_cell h.a4 n.2.1, sw_cell h.b0 n.2.2.1, sw_cell h.b1 n.2.2.2.1, sw_cell h.b2 n.2.2.2.2.1, sw_cell h.b3 n.2.2.2.2.2.1, sw_cell h.b4 n.2.2.2.2.2.2⟩
theorem lays44 {w : World} {bb ba f0 f1 f2 f3 f4 blk : Nat} (size : Nat) (h : ByAt w bb ba f0 f1 f2 f3 f4) (n : bb ≠ blk ∧ ba ≠ blk ∧ f0 ≠ blk ∧ f1 ≠ blk ∧ f2 ≠ blk ∧ f3 ≠ blk ∧ f4 ≠ blk) :
    CmpLays Tryd.prog 44 #[.pointer (some ⟨bb, 0, none⟩)] Rw.cells 6 rowCmp blk 0 size w :=
  fun _ _ _ _ x y => rowCmp_any x y bb ba f0 f1 f2 f3 f4 _ (h.sw n)
theorem hlen48 (n : Nat) (W : World) (h : n ≤ 12) : Calls Tryd.prog 48 #[.int .u64 n] W fun e w' => (∃ l : Int, e = .returned (.int .i64 l)) ∧ w' = W :=
  (Any.bits_Len bitsLen n W (by omega) (by omega)).mono fun _ _ ⟨he, hw⟩ => ⟨⟨_, he⟩, hw⟩
theorem cells6 (r : Rw) : r.cells.length = 6 := rfl
theorem one6 (r : Rw) : ∀ v ∈ r.cells, v.oneCell' = true := fun v hv => by
  simp only [Rw.cells, List.mem_cons, List.mem_nil_iff, or_false] at hv
  rcases hv with rfl | rfl | rfl | rfl | rfl | rfl <;> rfl
theorem RAt.holds {w : World} {g : Nat} {R : List Rw} (h : RAt w g R) : HoldsK Rw.cells 6 w g 0 R.toArray := by
  intro j hj
  rw [size_flatK] at hj
  have hj' : j < R.length * 6 := by simpa using hj
  have hi : j / 6 < R.length := by omega
  have hk : R[j / 6]? = some R[j / 6] := List.getElem?_eq_getElem hi
  have hc := h.cell hk (j % 6) (by omega)
  have e : j / 6 * 6 + j % 6 = j := by omega
  rw [e] at hc
  rw [get_flatK _ _ _ _ hj, Nat.zero_add]
  refine ⟨?_, h.frozen _⟩
  rw [hc]
  have e2 : R.toArray[j / 6]! = R[j / 6] := by
    rw [getElem!_pos R.toArray (j / 6) (by simpa using hi)]
    simp
  have e3 : j % 6 < (R[j / 6]).cells.length := by rw [cells6]; omega
  rw [e2, List.getElem?_eq_getElem e3]
  simp only [id, Option.some.injEq]
  exact (getElem!_pos (R[j / 6]).cells (j % 6) e3).symm
/-- Rows, read. -/
def RCells (w : World) (g : Nat) (R : List Rw) : Prop := g < w.heap.size ∧ ∀ (k : Nat) (r : Rw), R[k]? = some r → ∀ j, j < 6 → w.cell? ⟨g, k * 6 + j, none⟩ = r.cells[j]?
theorem rcells_sw {w : World} {g : Nat} {R : List Rw} (h : RAt w g R) (n : Nat) (d : Array Rw) (hd : d.size = R.length) (os : Array Obj) : RCells (sortWorldK Rw.cells 6 w g 0 n d os) g d.toList := by
  have hg : g < w.heap.size := (Array.getElem?_eq_some_iff.1 h).1
  have hH := holdsK_sortWorldK_c Rw.cells 6 w g 0 R.toArray d n os h.holds hg (by simpa using hd)
  have hs : (sortWorldK Rw.cells 6 w g 0 n d os).heap.size = w.heap.size + os.size := by
    unfold sortWorldK
    simp [grow, putRowK, putRow, mapBlock, Sort.ahead]
  refine ⟨by omega, fun k r hk j hj => ?_⟩
  obtain ⟨hl, hr⟩ := List.getElem?_eq_some_iff.1 hk
  have hl' : k < d.size := by simpa using hl
  have := (hH.cell hl' hj).1
  rw [Nat.zero_add] at this
  rw [this, getElem!_pos d k hl']
  have e : d[k] = r := by rw [← hr]; simp
  rw [e, getElem!_pos r.cells j (by rw [cells6]; exact hj), List.getElem?_eq_getElem (by rw [cells6]; exact hj)]
theorem grown_sw (w : World) (g : Nat) (n : Nat) (d : Array Rw) (os : Array Obj) : w.grownBy (sortWorldK Rw.cells 6 w g 0 n d os) (some g) :=
  ⟨rfl, rfl, rfl, by unfold sortWorldK; simp [grow, putRowK, putRow, mapBlock, Sort.ahead], fun k hk hn => sw_heap w g n d os (fun e => hn (by rw [e])) hk⟩
end Go.Proofs.YtgbmmelkagcbdaaDoor
