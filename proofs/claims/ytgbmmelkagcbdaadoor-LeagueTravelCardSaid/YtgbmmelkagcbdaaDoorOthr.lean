/- others and errorOf: their walks. -/
import Derived.Test.YtgbmmelkagcbdaaDoorMapk
import Derived.Test.YtgbmmelkagcbdaaDoorTrav
import Derived.LoopN
namespace Go.Proofs.YtgbmmelkagcbdaaDoor
open Go.RowKit Go Go.Shelf
/-- How many of the teams 1 and 2 have so much. -/
def oth (t : T6) (least : Int) : Int := (if decide (least ≤ t.2.1) = true then 1 else 0) + (if decide (least ≤ t.2.2.1) = true then 1 else 0)
set_option maxRecDepth 100000 in
set_option maxHeartbeats 4000000 in
theorem others_any (a b c d e f least : Int) (w : World) :
    Calls Tryd.prog 32 #[.agg #[.int .i64 a, .int .i64 b, .int .i64 c, .int .i64 d, .int .i64 e, .int .i64 f], .int .i64 0, .int .i64 3, .int .i64 least] w fun e' w' => e' = .returned (.int .i64 (oth (a, b, c, d, e, f) least)) ∧ Below w.heap.size w w' := by
  have h1 : decide (least ≤ b) = true ∨ decide (least ≤ b) = false := by cases decide (least ≤ b) <;> simp
  have h2 : decide (least ≤ c) = true ∨ decide (least ≤ c) = false := by cases decide (least ≤ c) <;> simp
  rcases h1 with h1 | h1 <;> rcases h2 with h2 | h2 <;>
  · go_enter Tryd.func32, Tryd.ntmps32
    go_wp2
    refine wp_loop_rounds 4 ?_
    rw [rounds_succ]; go_wp2
    rw [rounds_succ]; go_wp2
    rw [rounds_succ]; go_wp2
    rw [rounds_succ]; go_wp2
    go_returns
    refine ⟨ret_int ?_, by go_grown⟩
    simp only [oth, h1, h2]
    rfl
set_option maxRecDepth 100000 in
set_option maxHeartbeats 4000000 in
theorem error_any (A1 A2 : Option Addr) (c1 c2 K : Nat) (l : Lg) (t n : Int) (wb w : World) (hB : Bx A1 A2 c1 c2 l wb K w) (hb : leagueB l = true) (ht : inB t 0 ((l.far.length : Int) - 1) = true) (hn : inB n 1 l.far.length = true) :
    Calls Tryd.prog 30 #[.pointer (some ⟨K, 0, none⟩), .int .i64 t, .int .i64 n] w fun e w' => e = .returned (.int .i64 0) ∧ Below w.heap.size w w' := by
  have HB := Lib.hid hB
  have q1 := hB.c0
  have q2 := hB.c1
  have hs := hB.size
  have h6 := (good_of hb).n6
  clear hB
  go_enter Tryd.func30, Tryd.ntmps30
  go_wp2_with (first | (go_at_call 14; refine (isLeague_any _ _ _ _ l _ (HB.out.at_.more (by have := HB.out.lo; omega))).mono ?_; rintro e w1 ⟨rfl, hb1⟩; have S1 := Lib.hid (HB.out.keep hb1); clear q1 q2; have q1 := S1.out.c0; have q2 := S1.out.c1; simp only [hb]) | (go_at_call 15; refine (isTeam_any _ _ _ _ _ _ (by omega) q1).mono ?_; rintro e w2 ⟨rfl, rfl⟩; simp only [ht]) | (go_at_call 34; refine (within_any _ _ _ _).mono ?_; rintro e w' ⟨rfl, rfl⟩; simp only [hn]))
  go_returns
  exact ⟨rfl, hb1⟩
end Go.Proofs.YtgbmmelkagcbdaaDoor
