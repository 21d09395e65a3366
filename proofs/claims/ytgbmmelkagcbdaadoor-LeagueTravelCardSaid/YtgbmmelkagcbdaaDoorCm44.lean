/- The comparison that Table sorts by: the keys one behind the other. -/
import Derived.Test.YtgbmmelkagcbdaaDoorCmps
import Derived.Handy
namespace Go.Proofs.YtgbmmelkagcbdaaDoor
open Go.RowKit Go Go.Shelf Go.Sort
/-- The list of comparisons, as it lies. -/
structure ByAt (w : World) (bb ba f0 f1 f2 f3 f4 : Nat) : Prop where
  c : w.cell? ⟨bb, 0, none⟩ = some (.slice (some ⟨ba, 0, none⟩) 5 5)
  a0 : w.cell? ⟨ba, 0, none⟩ = some (.func (.func 22) #[] #[.pointer (some ⟨f0, 0, none⟩)])
  a1 : w.cell? ⟨ba, 1, none⟩ = some (.func (.func 22) #[] #[.pointer (some ⟨f1, 0, none⟩)])
  a2 : w.cell? ⟨ba, 2, none⟩ = some (.func (.func 22) #[] #[.pointer (some ⟨f2, 0, none⟩)])
  a3 : w.cell? ⟨ba, 3, none⟩ = some (.func (.func 22) #[] #[.pointer (some ⟨f3, 0, none⟩)])
  a4 : w.cell? ⟨ba, 4, none⟩ = some (.func (.func 22) #[] #[.pointer (some ⟨f4, 0, none⟩)])
  b0 : w.cell? ⟨f0, 0, none⟩ = some (.func (.func 25) #[] #[])
  b1 : w.cell? ⟨f1, 0, none⟩ = some (.func (.func 26) #[] #[])
  b2 : w.cell? ⟨f2, 0, none⟩ = some (.func (.func 27) #[] #[])
  b3 : w.cell? ⟨f3, 0, none⟩ = some (.func (.func 28) #[] #[])
  b4 : w.cell? ⟨f4, 0, none⟩ = some (.func (.func 29) #[] #[])
theorem Gr.at_ {w w' : World} (h : Gr w w') {p : Nat} {o : Nat} {v : Value} (hc : w.cell? ⟨p, o, none⟩ = some v) : w'.cell? ⟨p, o, none⟩ = some v := by rw [h.cells _ _ (World.block_lt_of_cell? w _ hc)]; exact hc
theorem ByAt.gr {w w' : World} {bb ba f0 f1 f2 f3 f4 : Nat} (h : ByAt w bb ba f0 f1 f2 f3 f4) (hg : Gr w w') : ByAt w' bb ba f0 f1 f2 f3 f4 :=
  ⟨hg.at_ h.c, hg.at_ h.a0, hg.at_ h.a1, hg.at_ h.a2, hg.at_ h.a3, hg.at_ h.a4, hg.at_ h.b0, hg.at_ h.b1, hg.at_ h.b2, hg.at_ h.b3, hg.at_ h.b4⟩
/-- What a round reads. -/
structure In44 (w W : World) (a b : Rw) (bb ba f0 f1 f2 f3 f4 : Nat) : Prop where
  by_ : ByAt W bb ba f0 f1 f2 f3 f4
  gr : Gr w W
  x0 : W.cell? ⟨w.heap.size, 0, none⟩ = some (.int .i64 a.t)
  x1 : W.cell? ⟨w.heap.size, 1, none⟩ = some (.int .i64 a.n)
  x2 : W.cell? ⟨w.heap.size, 2, none⟩ = some (.int .i64 a.p)
  x3 : W.cell? ⟨w.heap.size, 3, none⟩ = some (.int .i64 a.f)
  x4 : W.cell? ⟨w.heap.size, 4, none⟩ = some (.int .i64 a.a)
  x5 : W.cell? ⟨w.heap.size, 5, none⟩ = some (.int .i64 a.m)
  y0 : W.cell? ⟨w.heap.size + 1, 0, none⟩ = some (.int .i64 b.t)
  y1 : W.cell? ⟨w.heap.size + 1, 1, none⟩ = some (.int .i64 b.n)
  y2 : W.cell? ⟨w.heap.size + 1, 2, none⟩ = some (.int .i64 b.p)
  y3 : W.cell? ⟨w.heap.size + 1, 3, none⟩ = some (.int .i64 b.f)
  y4 : W.cell? ⟨w.heap.size + 1, 4, none⟩ = some (.int .i64 b.a)
  y5 : W.cell? ⟨w.heap.size + 1, 5, none⟩ = some (.int .i64 b.m)
theorem In44.next {w W W' : World} {a b : Rw} {bb ba f0 f1 f2 f3 f4 : Nat} (h : In44 w W a b bb ba f0 f1 f2 f3 f4) (hg : Gr W W') : In44 w W' a b bb ba f0 f1 f2 f3 f4 :=
  ⟨h.by_.gr hg, h.gr.trans hg, hg.at_ h.x0, hg.at_ h.x1, hg.at_ h.x2, hg.at_ h.x3, hg.at_ h.x4, hg.at_ h.x5, hg.at_ h.y0, hg.at_ h.y1, hg.at_ h.y2, hg.at_ h.y3, hg.at_ h.y4, hg.at_ h.y5⟩
theorem in44_start {w : World} {bb ba f0 f1 f2 f3 f4 : Nat} (a b : Rw) (h : ByAt w bb ba f0 f1 f2 f3 f4) : In44 w ((w.alloc (.cells #[.int .i64 a.t, .int .i64 a.n, .int .i64 a.p, .int .i64 a.f, .int .i64 a.a, .int .i64 a.m] 58)).alloc (.cells #[.int .i64 b.t, .int .i64 b.n, .int .i64 b.p, .int .i64 b.f, .int .i64 b.a, .int .i64 b.m] 58)) a b bb ba f0 f1 f2 f3 f4 :=
  ⟨h.gr (((Gr.refl _).alloc _).alloc _), ((Gr.refl _).alloc _).alloc _, by simp [go_sem], by simp [go_sem], by simp [go_sem], by simp [go_sem], by simp [go_sem], by simp [go_sem], by simp [go_sem], by simp [go_sem], by simp [go_sem], by simp [go_sem], by simp [go_sem], by simp [go_sem]⟩
def kc (j : Nat) (a b : Rw) : Int := cmpI (key j b) (key j a)
def rowCmp (a b : Rw) : Int := if kc 25 a b ≠ 0 then kc 25 a b else if kc 26 a b ≠ 0 then kc 26 a b else if kc 27 a b ≠ 0 then kc 27 a b else if kc 28 a b ≠ 0 then kc 28 a b else kc 29 a b
set_option maxRecDepth 100000 in
set_option maxHeartbeats 4000000 in
theorem cmp44_0 (a b : Rw) (bb ba f0 f1 f2 f3 f4 : Nat) (w : World) (hB : ByAt w bb ba f0 f1 f2 f3 f4) (h0 : (kc 25 a b != 0) = true) :
    Calls Tryd.prog 44 #[.agg a.cells.toArray, .agg b.cells.toArray, .pointer (some ⟨bb, 0, none⟩)] w fun e w' => e = .returned (.int .i64 (kc 25 a b)) ∧ Gr w w' := by
  have S0 := Lib.hid (in44_start a b hB)
  have q0 := S0.out.by_.c
  have q1 := S0.out.by_.a0
  have q2 := S0.out.by_.a1
  have q3 := S0.out.by_.a2
  have q4 := S0.out.by_.a3
  have q5 := S0.out.by_.a4
  have q6 := S0.out.x0
  have q7 := S0.out.x1
  have q8 := S0.out.x2
  have q9 := S0.out.x3
  have q10 := S0.out.x4
  have q11 := S0.out.x5
  have q12 := S0.out.y0
  have q13 := S0.out.y1
  have q14 := S0.out.y2
  have q15 := S0.out.y3
  have q16 := S0.out.y4
  have q17 := S0.out.y5
  clear hB
  unfold Rw.cells
  go_enter Tryd.func44, Tryd.ntmps44
  go_wp2
  refine wp_loop_rounds 6 ?_
  rw [rounds_succ]
  go_wp2_with (go_at_call 22; refine (more_25 _ a b _ S0.out.by_.b0).mono ?_; rintro e w1 ⟨rfl, hg1⟩; rw [show cmpI (key 25 b) (key 25 a) = kc 25 a b from rfl]; have S1 := Lib.hid (S0.out.next hg1); clear q0 q1 q2 q3 q4 q5 q6 q7 q8 q9 q10 q11 q12 q13 q14 q15 q16 q17; have q0 := S1.out.by_.c; have q1 := S1.out.by_.a0; have q2 := S1.out.by_.a1; have q3 := S1.out.by_.a2; have q4 := S1.out.by_.a3; have q5 := S1.out.by_.a4; have q6 := S1.out.x0; have q7 := S1.out.x1; have q8 := S1.out.x2; have q9 := S1.out.x3; have q10 := S1.out.x4; have q11 := S1.out.x5; have q12 := S1.out.y0; have q13 := S1.out.y1; have q14 := S1.out.y2; have q15 := S1.out.y3; have q16 := S1.out.y4; have q17 := S1.out.y5)
  go_returns
  exact ⟨rfl, S1.out.gr⟩
set_option maxRecDepth 100000 in
set_option maxHeartbeats 4000000 in
theorem cmp44_1 (a b : Rw) (bb ba f0 f1 f2 f3 f4 : Nat) (w : World) (hB : ByAt w bb ba f0 f1 f2 f3 f4) (h0 : (kc 25 a b != 0) = false) (h1 : (kc 26 a b != 0) = true) :
    Calls Tryd.prog 44 #[.agg a.cells.toArray, .agg b.cells.toArray, .pointer (some ⟨bb, 0, none⟩)] w fun e w' => e = .returned (.int .i64 (kc 26 a b)) ∧ Gr w w' := by
  have S0 := Lib.hid (in44_start a b hB)
  have q0 := S0.out.by_.c
  have q1 := S0.out.by_.a0
  have q2 := S0.out.by_.a1
  have q3 := S0.out.by_.a2
  have q4 := S0.out.by_.a3
  have q5 := S0.out.by_.a4
  have q6 := S0.out.x0
  have q7 := S0.out.x1
  have q8 := S0.out.x2
  have q9 := S0.out.x3
  have q10 := S0.out.x4
  have q11 := S0.out.x5
  have q12 := S0.out.y0
  have q13 := S0.out.y1
  have q14 := S0.out.y2
  have q15 := S0.out.y3
  have q16 := S0.out.y4
  have q17 := S0.out.y5
  clear hB
  unfold Rw.cells
  go_enter Tryd.func44, Tryd.ntmps44
  go_wp2
  refine wp_loop_rounds 6 ?_
  rw [rounds_succ]
  go_wp2_with (go_at_call 22; refine (more_25 _ a b _ S0.out.by_.b0).mono ?_; rintro e w1 ⟨rfl, hg1⟩; rw [show cmpI (key 25 b) (key 25 a) = kc 25 a b from rfl]; have S1 := Lib.hid (S0.out.next hg1); clear q0 q1 q2 q3 q4 q5 q6 q7 q8 q9 q10 q11 q12 q13 q14 q15 q16 q17; have q0 := S1.out.by_.c; have q1 := S1.out.by_.a0; have q2 := S1.out.by_.a1; have q3 := S1.out.by_.a2; have q4 := S1.out.by_.a3; have q5 := S1.out.by_.a4; have q6 := S1.out.x0; have q7 := S1.out.x1; have q8 := S1.out.x2; have q9 := S1.out.x3; have q10 := S1.out.x4; have q11 := S1.out.x5; have q12 := S1.out.y0; have q13 := S1.out.y1; have q14 := S1.out.y2; have q15 := S1.out.y3; have q16 := S1.out.y4; have q17 := S1.out.y5)
  rw [rounds_succ]
  go_wp2_with (go_at_call 22; refine (more_26 _ a b _ S1.out.by_.b1).mono ?_; rintro e w2 ⟨rfl, hg2⟩; rw [show cmpI (key 26 b) (key 26 a) = kc 26 a b from rfl]; have S2 := Lib.hid (S1.out.next hg2); clear q0 q1 q2 q3 q4 q5 q6 q7 q8 q9 q10 q11 q12 q13 q14 q15 q16 q17; have q0 := S2.out.by_.c; have q1 := S2.out.by_.a0; have q2 := S2.out.by_.a1; have q3 := S2.out.by_.a2; have q4 := S2.out.by_.a3; have q5 := S2.out.by_.a4; have q6 := S2.out.x0; have q7 := S2.out.x1; have q8 := S2.out.x2; have q9 := S2.out.x3; have q10 := S2.out.x4; have q11 := S2.out.x5; have q12 := S2.out.y0; have q13 := S2.out.y1; have q14 := S2.out.y2; have q15 := S2.out.y3; have q16 := S2.out.y4; have q17 := S2.out.y5)
  go_returns
  exact ⟨rfl, S2.out.gr⟩
set_option maxRecDepth 100000 in
set_option maxHeartbeats 4000000 in
theorem cmp44_2 (a b : Rw) (bb ba f0 f1 f2 f3 f4 : Nat) (w : World) (hB : ByAt w bb ba f0 f1 f2 f3 f4) (h0 : (kc 25 a b != 0) = false) (h1 : (kc 26 a b != 0) = false) (h2 : (kc 27 a b != 0) = true) :
    Calls Tryd.prog 44 #[.agg a.cells.toArray, .agg b.cells.toArray, .pointer (some ⟨bb, 0, none⟩)] w fun e w' => e = .returned (.int .i64 (kc 27 a b)) ∧ Gr w w' := by
  have S0 := Lib.hid (in44_start a b hB)
  have q0 := S0.out.by_.c
  have q1 := S0.out.by_.a0
  have q2 := S0.out.by_.a1
  have q3 := S0.out.by_.a2
  have q4 := S0.out.by_.a3
  have q5 := S0.out.by_.a4
  have q6 := S0.out.x0
  have q7 := S0.out.x1
  have q8 := S0.out.x2
  have q9 := S0.out.x3
  have q10 := S0.out.x4
  have q11 := S0.out.x5
  have q12 := S0.out.y0
  have q13 := S0.out.y1
  have q14 := S0.out.y2
  have q15 := S0.out.y3
  have q16 := S0.out.y4
  have q17 := S0.out.y5
  clear hB
  unfold Rw.cells
  go_enter Tryd.func44, Tryd.ntmps44
  go_wp2
  refine wp_loop_rounds 6 ?_
  rw [rounds_succ]
  go_wp2_with (go_at_call 22; refine (more_25 _ a b _ S0.out.by_.b0).mono ?_; rintro e w1 ⟨rfl, hg1⟩; rw [show cmpI (key 25 b) (key 25 a) = kc 25 a b from rfl]; have S1 := Lib.hid (S0.out.next hg1); clear q0 q1 q2 q3 q4 q5 q6 q7 q8 q9 q10 q11 q12 q13 q14 q15 q16 q17; have q0 := S1.out.by_.c; have q1 := S1.out.by_.a0; have q2 := S1.out.by_.a1; have q3 := S1.out.by_.a2; have q4 := S1.out.by_.a3; have q5 := S1.out.by_.a4; have q6 := S1.out.x0; have q7 := S1.out.x1; have q8 := S1.out.x2; have q9 := S1.out.x3; have q10 := S1.out.x4; have q11 := S1.out.x5; have q12 := S1.out.y0; have q13 := S1.out.y1; have q14 := S1.out.y2; have q15 := S1.out.y3; have q16 := S1.out.y4; have q17 := S1.out.y5)
  rw [rounds_succ]
  go_wp2_with (go_at_call 22; refine (more_26 _ a b _ S1.out.by_.b1).mono ?_; rintro e w2 ⟨rfl, hg2⟩; rw [show cmpI (key 26 b) (key 26 a) = kc 26 a b from rfl]; have S2 := Lib.hid (S1.out.next hg2); clear q0 q1 q2 q3 q4 q5 q6 q7 q8 q9 q10 q11 q12 q13 q14 q15 q16 q17; have q0 := S2.out.by_.c; have q1 := S2.out.by_.a0; have q2 := S2.out.by_.a1; have q3 := S2.out.by_.a2; have q4 := S2.out.by_.a3; have q5 := S2.out.by_.a4; have q6 := S2.out.x0; have q7 := S2.out.x1; have q8 := S2.out.x2; have q9 := S2.out.x3; have q10 := S2.out.x4; have q11 := S2.out.x5; have q12 := S2.out.y0; have q13 := S2.out.y1; have q14 := S2.out.y2; have q15 := S2.out.y3; have q16 := S2.out.y4; have q17 := S2.out.y5)
  rw [rounds_succ]
  go_wp2_with (go_at_call 22; refine (more_27 _ a b _ S2.out.by_.b2).mono ?_; rintro e w3 ⟨rfl, hg3⟩; rw [show cmpI (key 27 b) (key 27 a) = kc 27 a b from rfl]; have S3 := Lib.hid (S2.out.next hg3); clear q0 q1 q2 q3 q4 q5 q6 q7 q8 q9 q10 q11 q12 q13 q14 q15 q16 q17; have q0 := S3.out.by_.c; have q1 := S3.out.by_.a0; have q2 := S3.out.by_.a1; have q3 := S3.out.by_.a2; have q4 := S3.out.by_.a3; have q5 := S3.out.by_.a4; have q6 := S3.out.x0; have q7 := S3.out.x1; have q8 := S3.out.x2; have q9 := S3.out.x3; have q10 := S3.out.x4; have q11 := S3.out.x5; have q12 := S3.out.y0; have q13 := S3.out.y1; have q14 := S3.out.y2; have q15 := S3.out.y3; have q16 := S3.out.y4; have q17 := S3.out.y5)
  go_returns
  exact ⟨rfl, S3.out.gr⟩
set_option maxRecDepth 100000 in
set_option maxHeartbeats 4000000 in
theorem cmp44_3 (a b : Rw) (bb ba f0 f1 f2 f3 f4 : Nat) (w : World) (hB : ByAt w bb ba f0 f1 f2 f3 f4) (h0 : (kc 25 a b != 0) = false) (h1 : (kc 26 a b != 0) = false) (h2 : (kc 27 a b != 0) = false) (h3 : (kc 28 a b != 0) = true) :
    Calls Tryd.prog 44 #[.agg a.cells.toArray, .agg b.cells.toArray, .pointer (some ⟨bb, 0, none⟩)] w fun e w' => e = .returned (.int .i64 (kc 28 a b)) ∧ Gr w w' := by
  have S0 := Lib.hid (in44_start a b hB)
  have q0 := S0.out.by_.c
  have q1 := S0.out.by_.a0
  have q2 := S0.out.by_.a1
  have q3 := S0.out.by_.a2
  have q4 := S0.out.by_.a3
  have q5 := S0.out.by_.a4
  have q6 := S0.out.x0
  have q7 := S0.out.x1
  have q8 := S0.out.x2
  have q9 := S0.out.x3
  have q10 := S0.out.x4
  have q11 := S0.out.x5
  have q12 := S0.out.y0
  have q13 := S0.out.y1
  have q14 := S0.out.y2
  have q15 := S0.out.y3
  have q16 := S0.out.y4
  have q17 := S0.out.y5
  clear hB
  unfold Rw.cells
  go_enter Tryd.func44, Tryd.ntmps44
  go_wp2
  refine wp_loop_rounds 6 ?_
  rw [rounds_succ]
  go_wp2_with (go_at_call 22; refine (more_25 _ a b _ S0.out.by_.b0).mono ?_; rintro e w1 ⟨rfl, hg1⟩; rw [show cmpI (key 25 b) (key 25 a) = kc 25 a b from rfl]; have S1 := Lib.hid (S0.out.next hg1); clear q0 q1 q2 q3 q4 q5 q6 q7 q8 q9 q10 q11 q12 q13 q14 q15 q16 q17; have q0 := S1.out.by_.c; have q1 := S1.out.by_.a0; have q2 := S1.out.by_.a1; have q3 := S1.out.by_.a2; have q4 := S1.out.by_.a3; have q5 := S1.out.by_.a4; have q6 := S1.out.x0; have q7 := S1.out.x1; have q8 := S1.out.x2; have q9 := S1.out.x3; have q10 := S1.out.x4; have q11 := S1.out.x5; have q12 := S1.out.y0; have q13 := S1.out.y1; have q14 := S1.out.y2; have q15 := S1.out.y3; have q16 := S1.out.y4; have q17 := S1.out.y5)
  rw [rounds_succ]
  go_wp2_with (go_at_call 22; refine (more_26 _ a b _ S1.out.by_.b1).mono ?_; rintro e w2 ⟨rfl, hg2⟩; rw [show cmpI (key 26 b) (key 26 a) = kc 26 a b from rfl]; have S2 := Lib.hid (S1.out.next hg2); clear q0 q1 q2 q3 q4 q5 q6 q7 q8 q9 q10 q11 q12 q13 q14 q15 q16 q17; have q0 := S2.out.by_.c; have q1 := S2.out.by_.a0; have q2 := S2.out.by_.a1; have q3 := S2.out.by_.a2; have q4 := S2.out.by_.a3; have q5 := S2.out.by_.a4; have q6 := S2.out.x0; have q7 := S2.out.x1; have q8 := S2.out.x2; have q9 := S2.out.x3; have q10 := S2.out.x4; have q11 := S2.out.x5; have q12 := S2.out.y0; have q13 := S2.out.y1; have q14 := S2.out.y2; have q15 := S2.out.y3; have q16 := S2.out.y4; have q17 := S2.out.y5)
  rw [rounds_succ]
  go_wp2_with (go_at_call 22; refine (more_27 _ a b _ S2.out.by_.b2).mono ?_; rintro e w3 ⟨rfl, hg3⟩; rw [show cmpI (key 27 b) (key 27 a) = kc 27 a b from rfl]; have S3 := Lib.hid (S2.out.next hg3); clear q0 q1 q2 q3 q4 q5 q6 q7 q8 q9 q10 q11 q12 q13 q14 q15 q16 q17; have q0 := S3.out.by_.c; have q1 := S3.out.by_.a0; have q2 := S3.out.by_.a1; have q3 := S3.out.by_.a2; have q4 := S3.out.by_.a3; have q5 := S3.out.by_.a4; have q6 := S3.out.x0; have q7 := S3.out.x1; have q8 := S3.out.x2; have q9 := S3.out.x3; have q10 := S3.out.x4; have q11 := S3.out.x5; have q12 := S3.out.y0; have q13 := S3.out.y1; have q14 := S3.out.y2; have q15 := S3.out.y3; have q16 := S3.out.y4; have q17 := S3.out.y5)
  rw [rounds_succ]
  go_wp2_with (go_at_call 22; refine (more_28 _ a b _ S3.out.by_.b3).mono ?_; rintro e w4 ⟨rfl, hg4⟩; rw [show cmpI (key 28 b) (key 28 a) = kc 28 a b from rfl]; have S4 := Lib.hid (S3.out.next hg4); clear q0 q1 q2 q3 q4 q5 q6 q7 q8 q9 q10 q11 q12 q13 q14 q15 q16 q17; have q0 := S4.out.by_.c; have q1 := S4.out.by_.a0; have q2 := S4.out.by_.a1; have q3 := S4.out.by_.a2; have q4 := S4.out.by_.a3; have q5 := S4.out.by_.a4; have q6 := S4.out.x0; have q7 := S4.out.x1; have q8 := S4.out.x2; have q9 := S4.out.x3; have q10 := S4.out.x4; have q11 := S4.out.x5; have q12 := S4.out.y0; have q13 := S4.out.y1; have q14 := S4.out.y2; have q15 := S4.out.y3; have q16 := S4.out.y4; have q17 := S4.out.y5)
  go_returns
  exact ⟨rfl, S4.out.gr⟩
set_option maxRecDepth 100000 in
set_option maxHeartbeats 4000000 in
theorem cmp44_4 (a b : Rw) (bb ba f0 f1 f2 f3 f4 : Nat) (w : World) (hB : ByAt w bb ba f0 f1 f2 f3 f4) (h0 : (kc 25 a b != 0) = false) (h1 : (kc 26 a b != 0) = false) (h2 : (kc 27 a b != 0) = false) (h3 : (kc 28 a b != 0) = false) (h4 : (kc 29 a b != 0) = true) :
    Calls Tryd.prog 44 #[.agg a.cells.toArray, .agg b.cells.toArray, .pointer (some ⟨bb, 0, none⟩)] w fun e w' => e = .returned (.int .i64 (kc 29 a b)) ∧ Gr w w' := by
  have S0 := Lib.hid (in44_start a b hB)
  have q0 := S0.out.by_.c
  have q1 := S0.out.by_.a0
  have q2 := S0.out.by_.a1
  have q3 := S0.out.by_.a2
  have q4 := S0.out.by_.a3
  have q5 := S0.out.by_.a4
  have q6 := S0.out.x0
  have q7 := S0.out.x1
  have q8 := S0.out.x2
  have q9 := S0.out.x3
  have q10 := S0.out.x4
  have q11 := S0.out.x5
  have q12 := S0.out.y0
  have q13 := S0.out.y1
  have q14 := S0.out.y2
  have q15 := S0.out.y3
  have q16 := S0.out.y4
  have q17 := S0.out.y5
  clear hB
  unfold Rw.cells
  go_enter Tryd.func44, Tryd.ntmps44
  go_wp2
  refine wp_loop_rounds 6 ?_
  rw [rounds_succ]
  go_wp2_with (go_at_call 22; refine (more_25 _ a b _ S0.out.by_.b0).mono ?_; rintro e w1 ⟨rfl, hg1⟩; rw [show cmpI (key 25 b) (key 25 a) = kc 25 a b from rfl]; have S1 := Lib.hid (S0.out.next hg1); clear q0 q1 q2 q3 q4 q5 q6 q7 q8 q9 q10 q11 q12 q13 q14 q15 q16 q17; have q0 := S1.out.by_.c; have q1 := S1.out.by_.a0; have q2 := S1.out.by_.a1; have q3 := S1.out.by_.a2; have q4 := S1.out.by_.a3; have q5 := S1.out.by_.a4; have q6 := S1.out.x0; have q7 := S1.out.x1; have q8 := S1.out.x2; have q9 := S1.out.x3; have q10 := S1.out.x4; have q11 := S1.out.x5; have q12 := S1.out.y0; have q13 := S1.out.y1; have q14 := S1.out.y2; have q15 := S1.out.y3; have q16 := S1.out.y4; have q17 := S1.out.y5)
  rw [rounds_succ]
  go_wp2_with (go_at_call 22; refine (more_26 _ a b _ S1.out.by_.b1).mono ?_; rintro e w2 ⟨rfl, hg2⟩; rw [show cmpI (key 26 b) (key 26 a) = kc 26 a b from rfl]; have S2 := Lib.hid (S1.out.next hg2); clear q0 q1 q2 q3 q4 q5 q6 q7 q8 q9 q10 q11 q12 q13 q14 q15 q16 q17; have q0 := S2.out.by_.c; have q1 := S2.out.by_.a0; have q2 := S2.out.by_.a1; have q3 := S2.out.by_.a2; have q4 := S2.out.by_.a3; have q5 := S2.out.by_.a4; have q6 := S2.out.x0; have q7 := S2.out.x1; have q8 := S2.out.x2; have q9 := S2.out.x3; have q10 := S2.out.x4; have q11 := S2.out.x5; have q12 := S2.out.y0; have q13 := S2.out.y1; have q14 := S2.out.y2; have q15 := S2.out.y3; have q16 := S2.out.y4; have q17 := S2.out.y5)
  rw [rounds_succ]
  go_wp2_with (go_at_call 22; refine (more_27 _ a b _ S2.out.by_.b2).mono ?_; rintro e w3 ⟨rfl, hg3⟩; rw [show cmpI (key 27 b) (key 27 a) = kc 27 a b from rfl]; have S3 := Lib.hid (S2.out.next hg3); clear q0 q1 q2 q3 q4 q5 q6 q7 q8 q9 q10 q11 q12 q13 q14 q15 q16 q17; have q0 := S3.out.by_.c; have q1 := S3.out.by_.a0; have q2 := S3.out.by_.a1; have q3 := S3.out.by_.a2; have q4 := S3.out.by_.a3; have q5 := S3.out.by_.a4; have q6 := S3.out.x0; have q7 := S3.out.x1; have q8 := S3.out.x2; have q9 := S3.out.x3; have q10 := S3.out.x4; have q11 := S3.out.x5; have q12 := S3.out.y0; have q13 := S3.out.y1; have q14 := S3.out.y2; have q15 := S3.out.y3; have q16 := S3.out.y4; have q17 := S3.out.y5)
  rw [rounds_succ]
  go_wp2_with (go_at_call 22; refine (more_28 _ a b _ S3.out.by_.b3).mono ?_; rintro e w4 ⟨rfl, hg4⟩; rw [show cmpI (key 28 b) (key 28 a) = kc 28 a b from rfl]; have S4 := Lib.hid (S3.out.next hg4); clear q0 q1 q2 q3 q4 q5 q6 q7 q8 q9 q10 q11 q12 q13 q14 q15 q16 q17; have q0 := S4.out.by_.c; have q1 := S4.out.by_.a0; have q2 := S4.out.by_.a1; have q3 := S4.out.by_.a2; have q4 := S4.out.by_.a3; have q5 := S4.out.by_.a4; have q6 := S4.out.x0; have q7 := S4.out.x1; have q8 := S4.out.x2; have q9 := S4.out.x3; have q10 := S4.out.x4; have q11 := S4.out.x5; have q12 := S4.out.y0; have q13 := S4.out.y1; have q14 := S4.out.y2; have q15 := S4.out.y3; have q16 := S4.out.y4; have q17 := S4.out.y5)
  rw [rounds_succ]
  go_wp2_with (go_at_call 22; refine (more_29 _ a b _ S4.out.by_.b4).mono ?_; rintro e w5 ⟨rfl, hg5⟩; rw [show cmpI (key 29 b) (key 29 a) = kc 29 a b from rfl]; have S5 := Lib.hid (S4.out.next hg5); clear q0 q1 q2 q3 q4 q5 q6 q7 q8 q9 q10 q11 q12 q13 q14 q15 q16 q17; have q0 := S5.out.by_.c; have q1 := S5.out.by_.a0; have q2 := S5.out.by_.a1; have q3 := S5.out.by_.a2; have q4 := S5.out.by_.a3; have q5 := S5.out.by_.a4; have q6 := S5.out.x0; have q7 := S5.out.x1; have q8 := S5.out.x2; have q9 := S5.out.x3; have q10 := S5.out.x4; have q11 := S5.out.x5; have q12 := S5.out.y0; have q13 := S5.out.y1; have q14 := S5.out.y2; have q15 := S5.out.y3; have q16 := S5.out.y4; have q17 := S5.out.y5)
  go_returns
  exact ⟨rfl, S5.out.gr⟩
set_option maxRecDepth 100000 in
set_option maxHeartbeats 4000000 in
theorem cmp44_5 (a b : Rw) (bb ba f0 f1 f2 f3 f4 : Nat) (w : World) (hB : ByAt w bb ba f0 f1 f2 f3 f4) (h0 : (kc 25 a b != 0) = false) (h1 : (kc 26 a b != 0) = false) (h2 : (kc 27 a b != 0) = false) (h3 : (kc 28 a b != 0) = false) (h4 : (kc 29 a b != 0) = false) :
    Calls Tryd.prog 44 #[.agg a.cells.toArray, .agg b.cells.toArray, .pointer (some ⟨bb, 0, none⟩)] w fun e w' => e = .returned (.int .i64 (0)) ∧ Gr w w' := by
  have S0 := Lib.hid (in44_start a b hB)
  have q0 := S0.out.by_.c
  have q1 := S0.out.by_.a0
  have q2 := S0.out.by_.a1
  have q3 := S0.out.by_.a2
  have q4 := S0.out.by_.a3
  have q5 := S0.out.by_.a4
  have q6 := S0.out.x0
  have q7 := S0.out.x1
  have q8 := S0.out.x2
  have q9 := S0.out.x3
  have q10 := S0.out.x4
  have q11 := S0.out.x5
  have q12 := S0.out.y0
  have q13 := S0.out.y1
  have q14 := S0.out.y2
  have q15 := S0.out.y3
  have q16 := S0.out.y4
  have q17 := S0.out.y5
  clear hB
  unfold Rw.cells
  go_enter Tryd.func44, Tryd.ntmps44
  go_wp2
  refine wp_loop_rounds 6 ?_
  rw [rounds_succ]
  go_wp2_with (go_at_call 22; refine (more_25 _ a b _ S0.out.by_.b0).mono ?_; rintro e w1 ⟨rfl, hg1⟩; rw [show cmpI (key 25 b) (key 25 a) = kc 25 a b from rfl]; have S1 := Lib.hid (S0.out.next hg1); clear q0 q1 q2 q3 q4 q5 q6 q7 q8 q9 q10 q11 q12 q13 q14 q15 q16 q17; have q0 := S1.out.by_.c; have q1 := S1.out.by_.a0; have q2 := S1.out.by_.a1; have q3 := S1.out.by_.a2; have q4 := S1.out.by_.a3; have q5 := S1.out.by_.a4; have q6 := S1.out.x0; have q7 := S1.out.x1; have q8 := S1.out.x2; have q9 := S1.out.x3; have q10 := S1.out.x4; have q11 := S1.out.x5; have q12 := S1.out.y0; have q13 := S1.out.y1; have q14 := S1.out.y2; have q15 := S1.out.y3; have q16 := S1.out.y4; have q17 := S1.out.y5)
  rw [rounds_succ]
  go_wp2_with (go_at_call 22; refine (more_26 _ a b _ S1.out.by_.b1).mono ?_; rintro e w2 ⟨rfl, hg2⟩; rw [show cmpI (key 26 b) (key 26 a) = kc 26 a b from rfl]; have S2 := Lib.hid (S1.out.next hg2); clear q0 q1 q2 q3 q4 q5 q6 q7 q8 q9 q10 q11 q12 q13 q14 q15 q16 q17; have q0 := S2.out.by_.c; have q1 := S2.out.by_.a0; have q2 := S2.out.by_.a1; have q3 := S2.out.by_.a2; have q4 := S2.out.by_.a3; have q5 := S2.out.by_.a4; have q6 := S2.out.x0; have q7 := S2.out.x1; have q8 := S2.out.x2; have q9 := S2.out.x3; have q10 := S2.out.x4; have q11 := S2.out.x5; have q12 := S2.out.y0; have q13 := S2.out.y1; have q14 := S2.out.y2; have q15 := S2.out.y3; have q16 := S2.out.y4; have q17 := S2.out.y5)
  rw [rounds_succ]
  go_wp2_with (go_at_call 22; refine (more_27 _ a b _ S2.out.by_.b2).mono ?_; rintro e w3 ⟨rfl, hg3⟩; rw [show cmpI (key 27 b) (key 27 a) = kc 27 a b from rfl]; have S3 := Lib.hid (S2.out.next hg3); clear q0 q1 q2 q3 q4 q5 q6 q7 q8 q9 q10 q11 q12 q13 q14 q15 q16 q17; have q0 := S3.out.by_.c; have q1 := S3.out.by_.a0; have q2 := S3.out.by_.a1; have q3 := S3.out.by_.a2; have q4 := S3.out.by_.a3; have q5 := S3.out.by_.a4; have q6 := S3.out.x0; have q7 := S3.out.x1; have q8 := S3.out.x2; have q9 := S3.out.x3; have q10 := S3.out.x4; have q11 := S3.out.x5; have q12 := S3.out.y0; have q13 := S3.out.y1; have q14 := S3.out.y2; have q15 := S3.out.y3; have q16 := S3.out.y4; have q17 := S3.out.y5)
  rw [rounds_succ]
  go_wp2_with (go_at_call 22; refine (more_28 _ a b _ S3.out.by_.b3).mono ?_; rintro e w4 ⟨rfl, hg4⟩; rw [show cmpI (key 28 b) (key 28 a) = kc 28 a b from rfl]; have S4 := Lib.hid (S3.out.next hg4); clear q0 q1 q2 q3 q4 q5 q6 q7 q8 q9 q10 q11 q12 q13 q14 q15 q16 q17; have q0 := S4.out.by_.c; have q1 := S4.out.by_.a0; have q2 := S4.out.by_.a1; have q3 := S4.out.by_.a2; have q4 := S4.out.by_.a3; have q5 := S4.out.by_.a4; have q6 := S4.out.x0; have q7 := S4.out.x1; have q8 := S4.out.x2; have q9 := S4.out.x3; have q10 := S4.out.x4; have q11 := S4.out.x5; have q12 := S4.out.y0; have q13 := S4.out.y1; have q14 := S4.out.y2; have q15 := S4.out.y3; have q16 := S4.out.y4; have q17 := S4.out.y5)
  rw [rounds_succ]
  go_wp2_with (go_at_call 22; refine (more_29 _ a b _ S4.out.by_.b4).mono ?_; rintro e w5 ⟨rfl, hg5⟩; rw [show cmpI (key 29 b) (key 29 a) = kc 29 a b from rfl]; have S5 := Lib.hid (S4.out.next hg5); clear q0 q1 q2 q3 q4 q5 q6 q7 q8 q9 q10 q11 q12 q13 q14 q15 q16 q17; have q0 := S5.out.by_.c; have q1 := S5.out.by_.a0; have q2 := S5.out.by_.a1; have q3 := S5.out.by_.a2; have q4 := S5.out.by_.a3; have q5 := S5.out.by_.a4; have q6 := S5.out.x0; have q7 := S5.out.x1; have q8 := S5.out.x2; have q9 := S5.out.x3; have q10 := S5.out.x4; have q11 := S5.out.x5; have q12 := S5.out.y0; have q13 := S5.out.y1; have q14 := S5.out.y2; have q15 := S5.out.y3; have q16 := S5.out.y4; have q17 := S5.out.y5)
  rw [rounds_succ]
  go_wp2
  go_returns
  exact ⟨rfl, S5.out.gr⟩
theorem rowCmp_any (a b : Rw) (bb ba f0 f1 f2 f3 f4 : Nat) (w : World) (hB : ByAt w bb ba f0 f1 f2 f3 f4) :
    Calls Tryd.prog 44 #[.agg a.cells.toArray, .agg b.cells.toArray, .pointer (some ⟨bb, 0, none⟩)] w fun e w' => e = .returned (.int .i64 (rowCmp a b)) ∧ Gr w w' := by
  unfold rowCmp
  by_cases h0 : kc 25 a b = 0
  · have e0 : (kc 25 a b != 0) = false := by simp [h0]
    rw [if_neg (by simpa using h0)]
    by_cases h1 : kc 26 a b = 0
    · have e1 : (kc 26 a b != 0) = false := by simp [h1]
      rw [if_neg (by simpa using h1)]
      by_cases h2 : kc 27 a b = 0
      · have e2 : (kc 27 a b != 0) = false := by simp [h2]
        rw [if_neg (by simpa using h2)]
        by_cases h3 : kc 28 a b = 0
        · have e3 : (kc 28 a b != 0) = false := by simp [h3]
          rw [if_neg (by simpa using h3)]
          by_cases h4 : kc 29 a b = 0
          · rw [h4]
            exact cmp44_5 a b bb ba f0 f1 f2 f3 f4 w hB e0 e1 e2 e3 (by simp [h4])
          · exact cmp44_4 a b bb ba f0 f1 f2 f3 f4 w hB e0 e1 e2 e3 (by simp [h4])
        · rw [if_pos h3]
          exact cmp44_3 a b bb ba f0 f1 f2 f3 f4 w hB e0 e1 e2 (by simp [h3])
      · rw [if_pos h2]
        exact cmp44_2 a b bb ba f0 f1 f2 f3 f4 w hB e0 e1 (by simp [h2])
    · rw [if_pos h1]
      exact cmp44_1 a b bb ba f0 f1 f2 f3 f4 w hB e0 (by simp [h1])
  · rw [if_pos h0]
    exact cmp44_0 a b bb ba f0 f1 f2 f3 f4 w hB (by simp [h0])
end Go.Proofs.YtgbmmelkagcbdaaDoor
