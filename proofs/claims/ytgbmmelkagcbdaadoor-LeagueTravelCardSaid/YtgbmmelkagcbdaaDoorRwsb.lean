/- The rows of a table: the result of a game, and what the loops lay. -/
import Derived.Test.YtgbmmelkagcbdaaDoorRwsa
namespace Go.Proofs.YtgbmmelkagcbdaaDoor
open Go.RowKit Go Go.Shelf
def resI (g : Gm) : Nat := if decide (g.ag < g.hg) = true then (if g.e = 1 then 0 else 1) else (if g.e = 1 then 3 else 2)
def ptH (r : Nat) : Int := match r with | 0 => 3 | 1 => 2 | 2 => 1 | _ => 0
def ptA (r : Nat) : Int := match r with | 0 => 0 | 1 => 1 | 2 => 2 | _ => 3
theorem resI_lt (g : Gm) : resI g < 4 := by unfold resI; split <;> split <;> omega
theorem Pts.home {w : World} (h : Pts w) {r : Nat} (hr : r < 4) : w.cell? ⟨0, r * 2, none⟩ = some (.int .i64 (ptH r)) := by
  apply h.2
  match r, hr with
  | 0, _ => rfl
  | 1, _ => rfl
  | 2, _ => rfl
  | 3, _ => rfl
theorem Pts.away {w : World} (h : Pts w) {r : Nat} (hr : r < 4) : w.cell? ⟨0, r * 2 + 1, none⟩ = some (.int .i64 (ptA r)) := by
  apply h.2
  match r, hr with
  | 0, _ => rfl
  | 1, _ => rfl
  | 2, _ => rfl
  | 3, _ => rfl
set_option maxRecDepth 100000 in
set_option maxHeartbeats 4000000 in
theorem result_any (d h a e hg ag : Int) (w : World) :
    Calls Tryd.prog 41 #[.agg #[.int .i64 d, .int .i64 h, .int .i64 a, .int .i64 e, .int .i64 hg, .int .i64 ag]] w fun e' w' => e' = .returned (.int .i64 (resI ⟨d, h, a, e, hg, ag⟩)) ∧ Below w.heap.size w w' := by
  have h1 : decide (ag < hg) = true ∨ decide (ag < hg) = false := by cases decide (ag < hg) <;> simp
  have h2 : (e == 1) = true ∨ (e == 1) = false := by cases (e == 1) <;> simp
  rcases h1 with h1 | h1 <;> rcases h2 with h2 | h2 <;>
  · go_enter Tryd.func41, Tryd.ntmps41
    go_wp2
    go_returns
    refine ⟨ret_int ?_, by go_grown⟩
    have h3 := h2
    simp at h3
    simp [resI, h1, h3]
def addR (R : List Rw) (k : Nat) (p f a : Int) : List Rw := match R[k]? with | some r => R.set k (r.add p f a) | none => R
def amoR (R : List Rw) (k : Nat) (p : Int) : List Rw := match R[k]? with | some r => R.set k { r with m := wrap64 (r.m + p) } | none => R
def step2 (R : List Rw) (g : Gm) : List Rw := if g.e = 0 then R else addR (addR R g.h.toNat (ptH (resI g)) g.hg g.ag) g.a.toNat (ptA (resI g)) g.ag g.hg
def ptsOf (R : List Rw) (k : Nat) : Int := match R[k]? with | some r => r.p | none => 0
def step3 (R : List Rw) (g : Gm) : List Rw := if g.e ≠ 0 ∧ ptsOf R g.h.toNat = ptsOf R g.a.toNat then amoR (amoR R g.h.toNat (ptH (resI g))) g.a.toNat (ptA (resI g)) else R
def start3 : List Rw := [⟨0, 0, 0, 0, 0, 0⟩, ⟨1, 0, 0, 0, 0, 0⟩, ⟨2, 0, 0, 0, 0, 0⟩]
def rows2 (gs : List Gm) : List Rw := gs.foldl step2 start3
def rows3 (R : List Rw) (gs : List Gm) : List Rw := gs.foldl step3 R
def rowsS (l : Lg) : List Rw := rows3 (rows2 l.gs) l.gs
theorem addR_len (R : List Rw) (k : Nat) (p f a : Int) : (addR R k p f a).length = R.length := by unfold addR; split <;> simp
theorem amoR_len (R : List Rw) (k : Nat) (p : Int) : (amoR R k p).length = R.length := by unfold amoR; split <;> simp
theorem step2_len (R : List Rw) (g : Gm) : (step2 R g).length = R.length := by unfold step2; split <;> simp [addR_len]
theorem step3_len (R : List Rw) (g : Gm) : (step3 R g).length = R.length := by unfold step3; split <;> simp [amoR_len]
theorem rows2_len (gs : List Gm) : (rows2 gs).length = 3 := by
  unfold rows2
  have : ∀ R : List Rw, (gs.foldl step2 R).length = R.length := by
    induction gs with
    | nil => intro R; rfl
    | cons g gs ih => intro R; rw [List.foldl_cons, ih, step2_len]
  rw [this]; rfl
theorem rows3_len (R : List Rw) (gs : List Gm) : (rows3 R gs).length = R.length := by
  unfold rows3
  induction gs generalizing R with
  | nil => rfl
  | cons g gs ih => rw [List.foldl_cons, ih, step3_len]
theorem take_snoc {α : Type} {L : List α} {k : Nat} {g : α} (h : L[k]? = some g) : L.take (k + 1) = L.take k ++ [g] := by
  obtain ⟨hl, rfl⟩ := List.getElem?_eq_some_iff.1 h
  rw [List.take_succ_eq_append_getElem hl]
theorem rows2_snoc {gs : List Gm} {k : Nat} {g : Gm} (h : gs[k]? = some g) : rows2 (gs.take (k + 1)) = step2 (rows2 (gs.take k)) g := by
  rw [take_snoc h]; simp [rows2]
theorem rows3_snoc {R : List Rw} {gs : List Gm} {k : Nat} {g : Gm} (h : gs[k]? = some g) : rows3 R (gs.take (k + 1)) = step3 (rows3 R (gs.take k)) g := by
  rw [take_snoc h]; simp [rows3]
theorem rowsS_smp : rowsS smp = [⟨0, 2, 3, 5, 5, 0⟩, ⟨1, 2, 2, 3, 4, 0⟩, ⟨2, 2, 4, 5, 4, 0⟩] := by kernel_rfl
end Go.Proofs.YtgbmmelkagcbdaaDoor
