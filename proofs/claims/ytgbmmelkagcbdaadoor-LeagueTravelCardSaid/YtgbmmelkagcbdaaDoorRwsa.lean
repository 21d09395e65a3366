/- The rows of a table: one game laid to a team. -/
import Derived.Test.YtgbmmelkagcbdaaDoorChec
import Derived.BigRegion
namespace Go.Proofs.YtgbmmelkagcbdaaDoor
open Go.RowKit Go Go.Shelf
structure Rw where
  t : Int
  n : Int
  p : Int
  f : Int
  a : Int
  m : Int
deriving DecidableEq
def Rw.cells (r : Rw) : List Value := [.int .i64 r.t, .int .i64 r.n, .int .i64 r.p, .int .i64 r.f, .int .i64 r.a, .int .i64 r.m]
def rcells (R : List Rw) : List Value := R.flatMap Rw.cells
def Rw.add (r : Rw) (p f a : Int) : Rw := { r with n := wrap64 (r.n + 1), p := wrap64 (r.p + p), f := wrap64 (r.f + f), a := wrap64 (r.a + a) }
theorem rcells_len (R : List Rw) : (rcells R).length = R.length * 6 := by
  unfold rcells
  induction R with
  | nil => rfl
  | cons g gs ih => rw [List.flatMap_cons, List.length_append, ih, List.length_cons]; simp only [Rw.cells, List.length_cons, List.length_nil]; omega
theorem rcells_at {R : List Rw} {k : Nat} {r : Rw} (h : R[k]? = some r) (j : Nat) (hj : j < 6) : (rcells R)[k * 6 + j]? = r.cells[j]? := by
  induction R generalizing k with
  | nil => simp at h
  | cons x R ih =>
    unfold rcells at ih ⊢
    rw [List.flatMap_cons]
    have hl : x.cells.length = 6 := rfl
    cases k with
    | zero =>
      simp at h
      subst h
      rw [List.getElem?_append_left (by rw [hl]; omega)]
      simp
    | succ k =>
      simp only [List.getElem?_cons_succ] at h
      rw [List.getElem?_append_right (by rw [hl]; omega), hl, ← ih h]
      congr 1
      omega
/-- A block that holds rows. -/
def RAt (w : World) (g : Nat) (R : List Rw) : Prop := w.heap[g]? = some (.cells (rcells R).toArray 58 (0, 0))
theorem RAt.cell {w : World} {g : Nat} {R : List Rw} (h : RAt w g R) {k : Nat} {r : Rw} (hk : R[k]? = some r) (j : Nat) (hj : j < 6) : w.cell? ⟨g, k * 6 + j, none⟩ = r.cells[j]? := by
  unfold RAt at h
  rw [← rcells_at hk j hj]
  simp [World.cell?, h]
theorem RAt.frozen {w : World} {g : Nat} {R : List Rw} (h : RAt w g R) (o : Nat) : w.frozen? ⟨g, o, none⟩ = false := by
  unfold RAt at h
  simp [World.frozen?, h]
def Rw.put (r : Rw) (j : Nat) (v : Int) : Rw := match j with
  | 0 => { r with t := v }
  | 1 => { r with n := v }
  | 2 => { r with p := v }
  | 3 => { r with f := v }
  | 4 => { r with a := v }
  | _ => { r with m := v }
theorem rcells_set {R : List Rw} {k : Nat} {r : Rw} (h : R[k]? = some r) (j : Nat) (hj : j < 6) (v : Int) : (rcells R).set (k * 6 + j) (.int .i64 v) = rcells (R.set k (r.put j v)) := by
  induction R generalizing k with
  | nil => simp at h
  | cons x R ih =>
    unfold rcells at ih ⊢
    cases k with
    | zero =>
      simp at h
      subst h
      rw [List.set_cons_zero, List.flatMap_cons, List.flatMap_cons]
      match j, hj with
      | 0, _ => rfl
      | 1, _ => rfl
      | 2, _ => rfl
      | 3, _ => rfl
      | 4, _ => rfl
      | 5, _ => rfl
    | succ k =>
      simp only [List.getElem?_cons_succ] at h
      rw [List.set_cons_succ, List.flatMap_cons, List.flatMap_cons, ← ih h, List.set_append_right _ _ (by simp only [Rw.cells, List.length_cons, List.length_nil]; omega)]
      congr 2
      simp only [Rw.cells, List.length_cons, List.length_nil]
      omega
theorem heap_setCell_at' {w : World} {B i : Nat} {vs : Array Value} {t : TypeId} (h : w.heap[B]? = some (.cells vs t (0, 0))) (u : Value) : (w.setCell ⟨B, i, none⟩ u).heap[B]? = some (.cells (vs.setIfInBounds i u) t (0, 0)) := heap_setCell_at h u
theorem RAt.set {w : World} {g : Nat} {R : List Rw} (h : RAt w g R) {k : Nat} {r : Rw} (hk : R[k]? = some r) (j : Nat) (hj : j < 6) (v : Int) : RAt (w.setCell ⟨g, k * 6 + j, none⟩ (.int .i64 v)) g (R.set k (r.put j v)) := by
  unfold RAt at h ⊢
  have := heap_setCell_at' h (i := k * 6 + j) (.int .i64 v)
  rw [this, ← rcells_set hk j hj v]
  simp
theorem grownBy_set (w : World) (g o : Nat) (v : Value) : w.grownBy (w.setCell ⟨g, o, none⟩ v) (some g) :=
  ⟨rfl, rfl, rfl, by simp, fun k _ hk => Below.heap_setCell w ⟨g, o, none⟩ v k (fun e => hk (by rw [e]))⟩
theorem grownBy_trans {w a b : World} {row : Option Nat} (h : w.grownBy a row) (k : a.grownBy b row) : w.grownBy b row :=
  ⟨k.os.trans h.os, k.tape.trans h.tape, k.output.trans h.output, Nat.le_trans h.size k.size, fun i hi hn => (k.block i (Nat.lt_of_lt_of_le hi h.size) hn).trans (h.block i hi hn)⟩
theorem set_at {R : List Rw} {k : Nat} {r r' : Rw} (h : R[k]? = some r) : (R.set k r')[k]? = some r' := by
  obtain ⟨hl, _⟩ := List.getElem?_eq_some_iff.1 h
  simp [hl]
theorem RAt.drew {w : World} {g : Nat} {R : List Rw} (h : RAt w g R) : RAt w.drew g R := h
theorem grownBy_drew {w w' : World} {row : Option Nat} (h : w.grownBy w' row) : w.grownBy w'.drew row := ⟨h.os, h.tape, h.output, h.size, h.block⟩
theorem RAt.drewN {w : World} {g : Nat} {R : List Rw} (h : RAt w g R) (m : Nat) : RAt (w.drewN m) g R := h
theorem RAt.add4 {w : World} {g : Nat} {R : List Rw} (h : RAt w g R) {k : Nat} {r : Rw} (hk : R[k]? = some r) (p f a : Int) :
    RAt ((((w.setCell ⟨g, k * 6 + 1, none⟩ (.int .i64 (wrap64 (r.n + 1)))).setCell ⟨g, k * 6 + 2, none⟩ (.int .i64 (wrap64 (r.p + p)))).setCell ⟨g, k * 6 + 3, none⟩ (.int .i64 (wrap64 (r.f + f)))).setCell ⟨g, k * 6 + 4, none⟩ (.int .i64 (wrap64 (r.a + a)))) g (R.set k (r.add p f a)) := by
  have h1 := h.set hk 1 (by omega) (wrap64 (r.n + 1))
  have h2 := h1.set (set_at hk) 2 (by omega) (wrap64 (r.p + p))
  have h3 := h2.set (set_at (set_at hk)) 3 (by omega) (wrap64 (r.f + f))
  have h4 := h3.set (set_at (set_at (set_at hk))) 4 (by omega) (wrap64 (r.a + a))
  simp only [List.set_set] at h4
  exact h4
set_option maxRecDepth 100000 in
set_option maxHeartbeats 4000000 in
theorem add_any (g bo k n c : Nat) (R : List Rw) (r : Rw) (p f a : Int) (w : World) (hR : RAt w g R) (hk : R[k]? = some r) (ho : w.cell? ⟨bo, 0, none⟩ = some (.slice (some ⟨g, 0, none⟩) n c)) (hn : k < n) :
    Calls Tryd.prog 40 #[.int .i64 k, .int .i64 p, .int .i64 f, .int .i64 a, .pointer (some ⟨bo, 0, none⟩)] w fun e w' => e = .returned (.tuple #[]) ∧ RAt w' g (R.set k (r.add p f a)) ∧ w.grownBy w' (some g) ∧ w'.heap.size = w.heap.size := by
  have q1 : w.cell? ⟨g, k * 6 + 1, none⟩ = some (.int .i64 r.n) := hR.cell hk 1 (by omega)
  have q2 : w.cell? ⟨g, k * 6 + 2, none⟩ = some (.int .i64 r.p) := hR.cell hk 2 (by omega)
  have q3 : w.cell? ⟨g, k * 6 + 3, none⟩ = some (.int .i64 r.f) := hR.cell hk 3 (by omega)
  have q4 : w.cell? ⟨g, k * 6 + 4, none⟩ = some (.int .i64 r.a) := hR.cell hk 4 (by omega)
  have f1 : w.frozen? ⟨g, k * 6 + 1, none⟩ = false := hR.frozen _
  have f2 : w.frozen? ⟨g, k * 6 + 2, none⟩ = false := hR.frozen _
  have f3 : w.frozen? ⟨g, k * 6 + 3, none⟩ = false := hR.frozen _
  have f4 : w.frozen? ⟨g, k * 6 + 4, none⟩ = false := hR.frozen _
  have hlt : (k : Int) < (n : Int) := by omega
  have HR := Lib.hid hR
  have HK := Lib.hid hk
  clear hR hk
  go_enter Tryd.func40, Tryd.ntmps40
  go_wp2
  go_region
  go_returns
  refine ⟨rfl, (RAt.add4 HR.out HK.out p f a).drew, ?_, by simp⟩
  exact grownBy_drew (grownBy_trans (grownBy_trans (grownBy_trans (grownBy_set w _ _ _) (grownBy_set _ _ _ _)) (grownBy_set _ _ _ _)) (grownBy_set _ _ _ _))
end Go.Proofs.YtgbmmelkagcbdaaDoor
