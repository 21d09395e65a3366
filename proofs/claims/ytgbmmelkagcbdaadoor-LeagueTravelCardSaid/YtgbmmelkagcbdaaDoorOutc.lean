/- outcomes at the sample league: its first loop. -/
import Derived.Test.YtgbmmelkagcbdaaDoorTabl
import Derived.Test.YtgbmmelkagcbdaaDoorOthr
namespace Go.Proofs.YtgbmmelkagcbdaaDoor
open Go.RowKit Go Go.Shelf
theorem okI_wrap (n : Int) : okI (wrap64 n) = true := wrap64_wf n
theorem RAt.cells18 {w : World} {g : Nat} (h : RAt w g (rowsS smp)) : ∀ j v, (rcells [⟨0, 2, 3, 5, 5, 0⟩, ⟨1, 2, 2, 3, 4, 0⟩, ⟨2, 2, 4, 5, 4, 0⟩])[j]? = some v → w.cell? ⟨g, j, none⟩ = some v := by
  intro j v hv
  unfold RAt at h
  rw [rowsS_smp] at h
  generalize rcells _ = L at h hv
  simp only [World.cell?, h]
  simpa using hv
def nowC (k : Nat) : Array Value := #[.int .i64 (if k = 0 then 0 else 3), .int .i64 (if k ≤ 1 then 0 else 2), .int .i64 (if k ≤ 2 then 0 else 4), .int .i64 0, .int .i64 0, .int .i64 0]
/-- The world in the first loop of outcomes. -/
structure Now (A1 A2 : Option Addr) (c1 c2 K : Nat) (wb w : World) (g k : Nat) (W : World) : Prop where
  bx : Bx A1 A2 c1 c2 smp wb K W
  below : Below w.heap.size w W
  now : W.heap[w.heap.size]? = some (.cells (nowC k) 66 (0, 0))
  rat : RAt W g (rowsS smp)
  pts : Pts W
section
variable {A1 A2 : Option Addr} {c1 c2 K : Nat} {wb w : World} {g k : Nat} {W W' : World}
theorem Now.keep (h : Now A1 A2 c1 c2 K wb w g k W) (hb : Below W.heap.size W W') : Now A1 A2 c1 c2 K wb w g k W' :=
  ⟨h.bx.keep hb, h.below.trans (hb.mono h.below.size), (hb.block _ (Array.getElem?_eq_some_iff.1 h.now).1).trans h.now, h.rat.keep hb, h.pts.below hb (by have := h.pts.1; omega)⟩
theorem Now.put (h : Now A1 A2 c1 c2 K wb w g k W) (hK : K < w.heap.size) (hg : w.heap.size < g) (v : Value) (hv : (nowC k).setIfInBounds k v = nowC (k + 1)) : Now A1 A2 c1 c2 K wb w g (k + 1) (W.setCell ⟨w.heap.size, k, none⟩ v) := by
  have hb : Below w.heap.size W (W.setCell ⟨w.heap.size, k, none⟩ v) := (Below.refl _ _).setCell (p := ⟨w.heap.size, k, none⟩) (Nat.le_refl _) v
  refine ⟨h.bx.keepN hb hK, h.below.trans hb, ?_, ?_, h.pts.below hb (by have := h.bx.size; omega)⟩
  · rw [heap_setCell_at h.now, hv]
  · exact (Below.heap_setCell _ ⟨w.heap.size, k, none⟩ v g (by simp; omega)).trans h.rat
theorem Now.cell (h : Now A1 A2 c1 c2 K wb w g k W) (j : Nat) (v : Value) (hv : (nowC k)[j]? = some v) : W.cell? ⟨w.heap.size, j, none⟩ = some v := by simp [World.cell?, h.now, hv]
theorem Now.free (h : Now A1 A2 c1 c2 K wb w g k W) (j : Nat) : W.frozen? ⟨w.heap.size, j, none⟩ = false := by simp [World.frozen?, h.now]
end
def addT (t : T6) (i : Nat) (n : Int) : T6 := match i with
  | 0 => (wrap64 (t.1 + n), t.2)
  | 1 => (t.1, wrap64 (t.2.1 + n), t.2.2)
  | _ => (t.1, t.2.1, wrap64 (t.2.2.1 + n), t.2.2.2)
def play (h a : Nat) (x y : Int) (t : T6) : T6 := addT (addT t h x) a y
def expand (h a : Nat) (t : T6) : List T6 := [play h a 3 0 t, play h a 2 1 t, play h a 1 2 t, play h a 0 3 t]
def outK (k : Nat) : List T6 := if k ≤ 3 then [(3, 2, 4, 0, 0, 0)] else if k ≤ 4 then [(3, 2, 4, 0, 0, 0)].flatMap (expand 0 2) else ([(3, 2, 4, 0, 0, 0)].flatMap (expand 0 2)).flatMap (expand 1 0)
def outN (k : Nat) : Nat := if k ≤ 3 then 1 else if k ≤ 4 then 4 else 16
/-- The world in the later loops of outcomes. -/
structure Mid (A1 A2 : Option Addr) (c1 c2 K : Nat) (wb w W : World) : Prop where
  bx : Bx A1 A2 c1 c2 smp wb K W
  below : Below w.heap.size w W
  pts : Pts W
section
variable {A1 A2 : Option Addr} {c1 c2 K : Nat} {wb w : World} {g k : Nat} {W W' : World}
theorem Mid.keepN {n : Nat} (h : Mid A1 A2 c1 c2 K wb w W) (hb : Below n W W') (hK : K < w.heap.size) (hn : w.heap.size ≤ n) : Mid A1 A2 c1 c2 K wb w W' :=
  ⟨h.bx.keepN hb (by omega), h.below.trans (hb.mono hn), h.pts.below hb (by omega)⟩
theorem mid_start (h : Now A1 A2 c1 c2 K wb w g 3 W) (hK : K < w.heap.size) (hg : (W.alloc (.map #[] 0)).grownBy W' (some W.heap.size)) : Mid A1 A2 c1 c2 K wb w W' := by
  have hs := h.below.size
  have hb : Below w.heap.size W W' := ((Below.refl _ _).alloc hs _).grown hg (by simp; omega) (fun k e => by cases e; exact hs)
  exact (Mid.mk h.bx h.below h.pts).keepN hb hK (Nat.le_refl _)
theorem tots_start {b : Nat} (h : Tots W b (0 + 1) (fun s => False ∨ s = (3, 2, 4, 0, 0, 0))) : Tots W b (outN 0) (· ∈ outK 0) := by
  refine (h.congr (fun t => ?_)).mono (by simp [outN])
  simp [outK]
theorem tots_same {b k : Nat} (hk : k < 3) (h : Tots W b (outN k) (· ∈ outK k)) : Tots W b (outN (k + 1)) (· ∈ outK (k + 1)) := by
  have e1 : outN (k + 1) = outN k := by
    unfold outN
    rw [if_pos (by omega), if_pos (by omega)]
  have e2 : outK (k + 1) = outK k := by
    unfold outK
    rw [if_pos (by omega), if_pos (by omega)]
  rw [e1, e2]
  exact h
/-- The world in a round at an open game. -/
structure In3 (A1 A2 : Option Addr) (c1 c2 K : Nat) (wb w : World) (gb : Nat) (gm : Gm) (W : World) : Prop where
  mid : Mid A1 A2 c1 c2 K wb w W
  lo : w.heap.size ≤ gb
  box : W.heap[gb]? = some (.cells #[.int .i64 gm.d, .int .i64 gm.h, .int .i64 gm.a, .int .i64 gm.e, .int .i64 gm.hg, .int .i64 gm.ag] 33 (0, 0))
theorem In3.keep {gb n : Nat} {gm : Gm} (h : In3 A1 A2 c1 c2 K wb w gb gm W) (hK : K < w.heap.size) (hb : Below n W W') (hn : gb < n) : In3 A1 A2 c1 c2 K wb w gb gm W' :=
  ⟨h.mid.keepN hb hK (by have := h.lo; omega), h.lo, (hb.block gb hn).trans h.box⟩
theorem in_start {gm : Gm} (h : Mid A1 A2 c1 c2 K wb w W) (hK : K < w.heap.size) (hg : ((W.alloc (.cells #[.int .i64 gm.d, .int .i64 gm.h, .int .i64 gm.a, .int .i64 gm.e, .int .i64 gm.hg, .int .i64 gm.ag] 33)).alloc (.map #[] 0)).grownBy W' none) : In3 A1 A2 c1 c2 K wb w W.heap.size gm W' := by
  have hs := h.below.size
  have hb0 : Below W.heap.size W W' := (((Below.refl _ _).alloc (Nat.le_refl _) _).alloc (by simp) _).grown hg (by simp; omega) (fun k e => by cases e)
  refine ⟨h.keepN hb0 hK hs, hs, ?_⟩
  rw [hg.block W.heap.size (by simp; omega) (by simp)]
  exact (Below.heap_alloc _ _ _ (by simp)).trans (World.alloc_heap_new _ _)
theorem tots_next {b n : Nat} {p : T6 → Prop} (_h : Tots W b n p) (x : Obj) (hg : ((W.alloc x).alloc (.map #[] 0)).grownBy W' none) : Tots W' (W.heap.size + 1) 0 (fun _ => False) := by
  have := Tots.made (W.alloc x)
  rw [World.size_alloc] at this
  exact this.kept hg (by simp)
/-- What has come of those that are done. -/
def nextP (k h a : Nat) (done : T6 → Prop) (u : T6) : Prop := ∃ s, s ∈ outK k ∧ done s ∧ u ∈ expand h a s
theorem tots_end {b2 n n' k h a : Nat} {done : T6 → Prop} (ht : Tots W b2 n (nextP k h a done)) (hd : ∀ t, t ∈ outK k → done t) (hk : outK (k + 1) = (outK k).flatMap (expand h a)) (hn : n = n') : Tots W b2 n' (· ∈ outK (k + 1)) := by
  subst hn
  refine ht.congr (fun u => ?_)
  rw [hk, List.mem_flatMap]
  exact ⟨fun ⟨s, h1, _, h2⟩ => ⟨s, h1, h2⟩, fun ⟨s, h1, h2⟩ => ⟨s, h1, hd s h1, h2⟩⟩
theorem below_it {r gb : Nat} (hg : W.grownBy W' (some r)) (hr : gb < r) (hs : gb < W.heap.size) : Below (gb + 1) W W' := ⟨hg.os, hg.tape, hg.output, hg.size, fun k hk => hg.block k (by omega) (by simp; omega)⟩
theorem In3.cell {gb : Nat} {gm : Gm} (h : In3 A1 A2 c1 c2 K wb w gb gm W) (j : Nat) (v : Value) (hv : (#[.int .i64 gm.d, .int .i64 gm.h, .int .i64 gm.a, .int .i64 gm.e, .int .i64 gm.hg, .int .i64 gm.ag] : Array Value)[j]? = some v) : W.cell? ⟨gb, j, none⟩ = some v := by simp [World.cell?, h.box, hv]
theorem box_new (W : World) (o : Obj) : (W.alloc o).heap[W.heap.size]? = some o := World.alloc_heap_new W o
/-- The world in the loop over the four results. -/
structure In4 (A1 A2 : Option Addr) (c1 c2 K : Nat) (wb w : World) (gb : Nat) (gm : Gm) (b r b2 n cn n2 tb : Nat) (p done q : T6 → Prop) (t : T6) (W : World) : Prop where
  in3 : In3 A1 A2 c1 c2 K wb w gb gm W
  rng : Rng W b r n p done cn
  tots : Tots W b2 n2 q
  lo : gb < tb
  tbox : W.heap[tb]? = some (.cells #[.int .i64 t.1, .int .i64 t.2.1, .int .i64 t.2.2.1, .int .i64 t.2.2.2.1, .int .i64 t.2.2.2.2.1, .int .i64 t.2.2.2.2.2] 66 (0, 0))
theorem In4.sz {gb b r b2 n cn n2 tb : Nat} {gm : Gm} {p done q : T6 → Prop} {t : T6} (h : In4 A1 A2 c1 c2 K wb w gb gm b r b2 n cn n2 tb p done q t W) : tb < W.heap.size := (Array.getElem?_eq_some_iff.1 h.tbox).1
theorem In4.tcell {gb b r b2 n cn n2 tb : Nat} {gm : Gm} {p done q : T6 → Prop} {t : T6} (h : In4 A1 A2 c1 c2 K wb w gb gm b r b2 n cn n2 tb p done q t W) (j : Nat) (v : Value) (hv : (#[.int .i64 t.1, .int .i64 t.2.1, .int .i64 t.2.2.1, .int .i64 t.2.2.2.1, .int .i64 t.2.2.2.2.1, .int .i64 t.2.2.2.2.2] : Array Value)[j]? = some v) : W.cell? ⟨tb, j, none⟩ = some v := by simp [World.cell?, h.tbox, hv]
theorem tots_two {b n : Nat} {p : T6 → Prop} (h : Tots W b n p) (x y : Obj) : Tots ((W.alloc x).alloc y) b n p := (h.kept (World.grownBy_alloc _ _ none) (by simp)).kept (World.grownBy_alloc _ _ none) (by simp)
end
abbrev ptsV : Value := .agg #[.int .i64 3, .int .i64 0, .int .i64 2, .int .i64 1, .int .i64 1, .int .i64 2, .int .i64 0, .int .i64 3]
theorem idx0 (w : World) : (Instr.index 69 ptsV (.int .i64 0)).run Tryd.prog w = .ok (.agg #[.int .i64 3, .int .i64 0]) w := by kernel_rfl
theorem idx1 (w : World) : (Instr.index 69 ptsV (.int .i64 1)).run Tryd.prog w = .ok (.agg #[.int .i64 2, .int .i64 1]) w := by kernel_rfl
theorem idx2 (w : World) : (Instr.index 69 ptsV (.int .i64 2)).run Tryd.prog w = .ok (.agg #[.int .i64 1, .int .i64 2]) w := by kernel_rfl
theorem idx3 (w : World) : (Instr.index 69 ptsV (.int .i64 3)).run Tryd.prog w = .ok (.agg #[.int .i64 0, .int .i64 3]) w := by kernel_rfl
theorem play0_0 (a b c d e f : Int) : tv (play 0 2 3 0 (a, b, c, d, e, f)) = .agg #[.int .i64 (wrap64 (a + 3)), .int .i64 b, .int .i64 (wrap64 c), .int .i64 d, .int .i64 e, .int .i64 f] := by simp [tv, play, addT]
theorem play0_1 (a b c d e f : Int) : tv (play 0 2 2 1 (a, b, c, d, e, f)) = .agg #[.int .i64 (wrap64 (a + 2)), .int .i64 b, .int .i64 (wrap64 (c + 1)), .int .i64 d, .int .i64 e, .int .i64 f] := by simp [tv, play, addT]
theorem play0_2 (a b c d e f : Int) : tv (play 0 2 1 2 (a, b, c, d, e, f)) = .agg #[.int .i64 (wrap64 (a + 1)), .int .i64 b, .int .i64 (wrap64 (c + 2)), .int .i64 d, .int .i64 e, .int .i64 f] := by simp [tv, play, addT]
theorem play0_3 (a b c d e f : Int) : tv (play 0 2 0 3 (a, b, c, d, e, f)) = .agg #[.int .i64 (wrap64 a), .int .i64 b, .int .i64 (wrap64 (c + 3)), .int .i64 d, .int .i64 e, .int .i64 f] := by simp [tv, play, addT]
theorem play1_0 (a b c d e f : Int) : tv (play 1 0 3 0 (a, b, c, d, e, f)) = .agg #[.int .i64 (wrap64 a), .int .i64 (wrap64 (b + 3)), .int .i64 c, .int .i64 d, .int .i64 e, .int .i64 f] := by simp [tv, play, addT]
theorem play1_1 (a b c d e f : Int) : tv (play 1 0 2 1 (a, b, c, d, e, f)) = .agg #[.int .i64 (wrap64 (a + 1)), .int .i64 (wrap64 (b + 2)), .int .i64 c, .int .i64 d, .int .i64 e, .int .i64 f] := by simp [tv, play, addT]
theorem play1_2 (a b c d e f : Int) : tv (play 1 0 1 2 (a, b, c, d, e, f)) = .agg #[.int .i64 (wrap64 (a + 2)), .int .i64 (wrap64 (b + 1)), .int .i64 c, .int .i64 d, .int .i64 e, .int .i64 f] := by simp [tv, play, addT]
theorem play1_3 (a b c d e f : Int) : tv (play 1 0 0 3 (a, b, c, d, e, f)) = .agg #[.int .i64 (wrap64 (a + 3)), .int .i64 (wrap64 b), .int .i64 c, .int .i64 d, .int .i64 e, .int .i64 f] := by simp [tv, play, addT]
theorem ok_add {t : T6} (h : okT t = true) (i : Nat) (n : Int) : okT (addT t i n) = true := by
  obtain ⟨a, b, c, d, e, f⟩ := t
  simp only [okT, Bool.and_eq_true] at h ⊢
  obtain ⟨⟨⟨⟨⟨h1, h2⟩, h3⟩, h4⟩, h5⟩, h6⟩ := h
  unfold addT
  split <;> simp [okI_wrap, *]
theorem ok_play {t : T6} (hok : okT t = true) (h a : Nat) (x y : Int) : okT (play h a x y t) = true := ok_add (ok_add hok _ _) _ _
theorem In4.tots2 {A1 A2 : Option Addr} {c1 c2 K : Nat} {wb w W : World} {gb b r b2 n cn n2 tb : Nat} {gm : Gm} {p done q : T6 → Prop} {t : T6} (h : In4 A1 A2 c1 c2 K wb w gb gm b r b2 n cn n2 tb p done q t W) (x y : Obj) : Tots ((W.alloc x).alloc y).drew.drew b2 n2 q :=
  ((h.tots.kept (World.grownBy_alloc _ x none) (by simp)).kept (World.grownBy_alloc _ y none) (by simp)).kept (row := none) (grownBy_drew (grownBy_drew (World.grownBy.refl _ _))) (by simp)
theorem In4.step {A1 A2 : Option Addr} {c1 c2 K : Nat} {wb w W W' : World} {gb b r b2 n cn n2 n3 tb : Nat} {gm : Gm} {p done q q' : T6 → Prop} {t : T6} (h : In4 A1 A2 c1 c2 K wb w gb gm b r b2 n cn n2 tb p done q t W) (hK : K < w.heap.size) (x y : Obj) (ht : Tots W' b2 n3 q')
    (hg : ((W.alloc x).alloc y).drew.drew.grownBy W' (some b2)) (h1 : b ≠ b2) (h2 : r ≠ b2) (h3 : tb ≠ b2) (h4 : gb < b2) : In4 A1 A2 c1 c2 K wb w gb gm b r b2 n cn n3 tb p done q' t W' := by
  have hsz := h.sz
  have hgb := (Array.getElem?_eq_some_iff.1 h.in3.box).1
  have g0 : W.grownBy ((W.alloc x).alloc y).drew.drew (some b2) := grownBy_drew (grownBy_drew (grownBy_trans (World.grownBy_alloc _ x _) (World.grownBy_alloc _ y _)))
  have g1 := grownBy_trans g0 hg
  refine ⟨h.in3.keep hK (below_it g1 h4 hgb) (Nat.lt_succ_self _), h.rng.kept g1 (by simpa using h1) (by simpa using h2), ht, h.lo, (g1.block tb hsz (by simpa using h3)).trans h.tbox⟩
theorem expand_step {h a : Nat} {t : T6} {q : T6 → Prop} {j : Nat} {v : T6} (hv : (expand h a t)[j]? = some v) (u : T6) : ((q u ∨ u ∈ (expand h a t).take j) ∨ u = v) ↔ (q u ∨ u ∈ (expand h a t).take (j + 1)) := by
  rw [take_snoc hv, List.mem_append, List.mem_singleton, or_assoc]
theorem expand_end {h a k : Nat} {t : T6} {done : T6 → Prop} (ht : t ∈ outK k) (u : T6) : (nextP k h a done u ∨ u ∈ (expand h a t).take 4) ↔ nextP k h a (fun s => done s ∨ s = t) u := by
  rw [show (expand h a t).take 4 = expand h a t from rfl]
  constructor
  · rintro (⟨s, h1, h2, h3⟩ | h1)
    · exact ⟨s, h1, .inl h2, h3⟩
    · exact ⟨t, ht, .inr rfl, h1⟩
  · rintro ⟨s, h1, h2 | rfl, h3⟩
    · exact .inl ⟨s, h1, h2, h3⟩
    · exact .inr h3
set_option maxRecDepth 100000 in
set_option maxHeartbeats 4000000 in
theorem outcomes_smp (A1 A2 : Option Addr) (c1 c2 K : Nat) (wb w : World) (hB : Bx A1 A2 c1 c2 smp wb K w) (hp : Pts w) :
    Calls Tryd.prog 31 #[.pointer (some ⟨K, 0, none⟩)] w fun e w' => ∃ b, e = .returned (.map (some b)) ∧ Tots w' b 16 (· ∈ outK 5) ∧ Below w.heap.size w w' := by
  have HB := Lib.hid hB
  have HP := Lib.hid hp
  have hK := hB.size
  clear hB hp
  have hmm := @run_makeMap Tryd.prog
  go_enter Tryd.func31, Tryd.ntmps31
  go_wp2_with (go_at_call 20; refine (rows_any A1 A2 c1 c2 K smp wb _ (HB.out.keep (by go_grown)) (HP.out.below (B := w.heap.size) (by go_grown) (by have := HP.out.1; omega)) (good_of smp_league) rfl).mono ?_; rintro e w2 ⟨g, rfl, hg, hra, hb2⟩; have HR := Lib.hid hra; clear hra)
  have hgw : w.heap.size < g := by have := hg; simp at this; omega
  have N0 : Hid (Now A1 A2 c1 c2 K wb w g 0 w2) := Lib.hid ⟨HB.out.keep (below_box hb2), below_box hb2, (hb2.block w.heap.size (by simp)).trans (World.alloc_heap_new w _), HR.out, HP.out.below (B := w.heap.size) (below_box hb2) (by omega)⟩
  clear hg hb2 HR HB HP
  go_loopw [17] (fun i wr => ∃ k : Nat, k ≤ 3 ∧ i = .int .i64 k ∧ Now A1 A2 c1 c2 K wb w g k wr) (fun i _ => 3 - (intOf i).toNat)
  case atStart => exact ⟨0, by omega, rfl, N0.out⟩
  case round =>
    obtain ⟨k, hk, rfl, hst⟩ := hrel
    have HN := Lib.hid hst
    have hgz : g < wr.heap.size := (Array.getElem?_eq_some_iff.1 hst.rat).1
    have hz : w.heap.size < wr.heap.size := (Array.getElem?_eq_some_iff.1 hst.now).1
    clear hst N0
    by_cases hlt : k < 3
    · have hk' : k = 0 ∨ k = 1 ∨ k = 2 := by omega
      have f0 := HN.out.free k
      have t0 := HN.out.cell k (.int .i64 0) (by rcases hk' with rfl | rfl | rfl <;> rfl)
      rcases hk' with rfl | rfl | rfl
      · have q0 := HN.out.rat.cells18 0 _ rfl
        have q1 := HN.out.rat.cells18 1 _ rfl
        have q2 := HN.out.rat.cells18 2 _ rfl
        have q3 := HN.out.rat.cells18 3 _ rfl
        have q4 := HN.out.rat.cells18 4 _ rfl
        have q5 := HN.out.rat.cells18 5 _ rfl
        go_wp2
        go_roundw
        case rel => exact ⟨1, by omega, rfl, ((HN.out.put hK hgw (.int .i64 3) rfl).keep (by go_grown))⟩
        case measure => simp [intOf]
      · have q0 := HN.out.rat.cells18 6 _ rfl
        have q1 := HN.out.rat.cells18 7 _ rfl
        have q2 := HN.out.rat.cells18 8 _ rfl
        have q3 := HN.out.rat.cells18 9 _ rfl
        have q4 := HN.out.rat.cells18 10 _ rfl
        have q5 := HN.out.rat.cells18 11 _ rfl
        go_wp2
        go_roundw
        case rel => exact ⟨2, by omega, rfl, ((HN.out.put hK hgw (.int .i64 2) rfl).keep (by go_grown))⟩
        case measure => simp [intOf]
      · have q0 := HN.out.rat.cells18 12 _ rfl
        have q1 := HN.out.rat.cells18 13 _ rfl
        have q2 := HN.out.rat.cells18 14 _ rfl
        have q3 := HN.out.rat.cells18 15 _ rfl
        have q4 := HN.out.rat.cells18 16 _ rfl
        have q5 := HN.out.rat.cells18 17 _ rfl
        go_wp2
        go_roundw
        case rel => exact ⟨3, by omega, rfl, ((HN.out.put hK hgw (.int .i64 4) rfl).keep (by go_grown))⟩
        case measure => simp [intOf]
    · obtain rfl : k = 3 := by omega
      have t0 := HN.out.cell 0 (.int .i64 3) rfl
      have t1 := HN.out.cell 1 (.int .i64 2) rfl
      have t2 := HN.out.cell 2 (.int .i64 4) rfl
      have t3 := HN.out.cell 3 (.int .i64 0) rfl
      have t4 := HN.out.cell 4 (.int .i64 0) rfl
      have t5 := HN.out.cell 5 (.int .i64 0) rfl
      go_wp2_with (refine wpList_ins_tots _ rfl _ _ _ rfl wr.heap.size 0 _ rfl (Tots.made wr) (by decide) (3, 2, 4, 0, 0, 0) (by decide) true rfl rfl ?_; intro W4 hT hgr hsz; have M4 := Lib.hid (mid_start HN.out hK hgr); have q2 := M4.out.bx.c1)
      have HT := Lib.hid (tots_start hT)
      have hsz4 : W4.heap.size = wr.heap.size + 1 := by rw [hsz]; simp
      clear t0 t1 t2 t3 t4 t5 hT hgr hsz HN hgz hk hlt
      go_loopw [6, 36] (fun m i wq => ∃ (k b : Nat), k ≤ 5 ∧ i = .int .i64 k ∧ m = .map (some b) ∧ w.heap.size ≤ b ∧ Tots wq b (outN k) (· ∈ outK k) ∧ Mid A1 A2 c1 c2 K wb w wq) (fun _ i _ => 5 - (intOf i).toNat)
      case atStart => exact ⟨0, _, by omega, rfl, rfl, by omega, HT.out, M4.out⟩
      case round =>
        clear q2 HT M4 hsz4 hz
        obtain ⟨k, b, hk, rfl, rfl, hwb, hT, hM⟩ := hrel
        have HT := Lib.hid hT
        have HM := Lib.hid hM
        have q2 := hM.bx.c1
        have hsz := hM.below.size
        clear hT hM
        by_cases hlt : k < 5
        · obtain ⟨gm, hgm⟩ : ∃ g, smp.gs[k]? = some g := ⟨_, List.getElem?_eq_getElem hlt⟩
          obtain ⟨b', o', rfl, hb', g1, g2, g3, g4, g5, g6⟩ := HM.out.bx.at_.gs.at_ hgm
          have hz' : b' < wr.heap.size := by have := HM.out.bx.below.size; omega
          by_cases h3 : k < 3
          · have hge : (gm.e != 0) = true := by
              have : k = 0 ∨ k = 1 ∨ k = 2 := by omega
              rcases this with rfl | rfl | rfl <;> (simp [smp] at hgm; subst hgm; rfl)
            have HG := Lib.hid hgm
            clear hgm
            obtain ⟨gd, gh, ga, ge, ghg, gag⟩ := gm
            dsimp only at *
            go_wp2
            go_roundw
            case rel => exact ⟨k + 1, b, by omega, by go_num, rfl, hwb, tots_same h3 (HT.out.kept (row := none) (World.grownBy_alloc _ _ _) (by simp)), HM.out.keepN ((Below.refl _ _).alloc (Nat.le_refl _) _) hK hsz⟩
            case measure => simp [intOf]; omega
          · have hk2 : k = 3 ∨ k = 4 := by omega
            rcases hk2 with rfl | rfl
            · obtain rfl : (⟨6, 0, 2, 0, 0, 0⟩ : Gm) = gm := by simpa [smp] using hgm
              clear hgm h3 hlt hk
              dsimp only at *
              go_wp2_with (refine wpList_range_tots _ rfl _ rfl b (outN 3) _ rfl (tots_two HT.out _ _) (wr.heap.size + 1 + 1) (by simp) ?_; intro W5 cnt hrg hcn hgr5 hsz5)
              go_frame
              have I5 := Lib.hid (in_start (gm := ⟨6, 0, 2, 0, 0, 0⟩) HM.out hK hgr5)
              have HRG := Lib.hid hrg
              have HT5 := Lib.hid (tots_next HT.out (.cells #[.int .i64 6, .int .i64 0, .int .i64 2, .int .i64 0, .int .i64 0, .int .i64 0] 33) hgr5)
              clear hrg hgr5 g1 g2 g3 g4 g5 g6
              have hbw := HT.out.lt
              obtain ⟨wo, rfl⟩ : ∃ wo, wo = wr := ⟨_, rfl⟩
              go_loopw [46] (fun _ wq => ∃ (done : T6 → Prop) (cnt n2 : Nat), Rng wq b (wo.heap.size + 1 + 1) (outN 3) (· ∈ outK 3) done cnt ∧ Tots wq (wo.heap.size + 1) n2 (nextP 3 0 2 done) ∧ n2 + 4 * cnt ≤ 4 * outN 3 ∧ In3 A1 (some ⟨b', o', none⟩) c1 c2 K wb w wo.heap.size ⟨6, 0, 2, 0, 0, 0⟩ wq) (fun _ wq => wq.rangeLeft b (wo.heap.size + 1 + 1))
              case atStart => exact ⟨_, _, 0, by simpa using HRG.out, HT5.out.congr (by simp [nextP]), by omega, I5.out⟩
              case round =>
                clear HRG HT5 I5 hsz5 hcn q2
                obtain ⟨done, cn, n2, hr3, ht3, hn3, hi3⟩ := hrel
                have HR3 := Lib.hid hr3
                have HT3 := Lib.hid ht3
                have HI3 := Lib.hid hi3
                clear hr3 ht3 hi3
                go_wp2_with (at_next; refine wpList_next_tots _ rfl _ rfl b (wo.heap.size + 1 + 1) _ cn _ done rfl HR3.out (fun hc0 hd0 => ?_) (fun t c w6 cn2 hp0 hok0 hnd0 hrg0 hlt6 hgr0 hsz0 hen => ?_); (have HD := Lib.hid hd0; clear hd0 hc0); rotate_left; (have hr6 := hrg0.lt; have hs6 := Nat.le_of_eq hsz0.symm; have HP6 := Lib.hid hp0; have HOK := Lib.hid hok0; have HR6 := Lib.hid hrg0; have HI6 := Lib.hid (HI3.out.keep hK (below_it hgr0 (by omega) (by have := HR3.out.lt; omega)) (Nat.lt_succ_self _)); have HT6 := Lib.hid (HT3.out.kept hgr0 (by simp)); clear hp0 hok0 hrg0 hgr0 hnd0 hsz0; have j0 := HI6.out.mid.pts.2 0 _ rfl; have j1 := HI6.out.mid.pts.2 1 _ rfl; have j2 := HI6.out.mid.pts.2 2 _ rfl; have j3 := HI6.out.mid.pts.2 3 _ rfl; have j4 := HI6.out.mid.pts.2 4 _ rfl; have j5 := HI6.out.mid.pts.2 5 _ rfl; have j6 := HI6.out.mid.pts.2 6 _ rfl; have j7 := HI6.out.mid.pts.2 7 _ rfl; have hz06 : 0 < w6.heap.size := (by omega); obtain ⟨ta, tb, tc, td, te, tf⟩ := t; dsimp only [tv] at hen; dsimp only [tv]); rotate_left)
                · go_roundw
                  case rel => exact ⟨3 + 1, _, by omega, rfl, rfl, by omega, tots_end (HT3.out.mono (by have : outN 3 = 1 := rfl; have : outN (3 + 1) = 4 * 1 := rfl; omega)) HD.out rfl rfl, HI3.out.mid⟩
                  case measure => simp [intOf]
                · clear j0 j1 j2 j3 j4 j5 j6 j7 hen
                  have tbx := box_new w6 (.cells #[.int .i64 ta, .int .i64 tb, .int .i64 tc, .int .i64 td, .int .i64 te, .int .i64 tf] 66)
                  have HTB := Lib.hid tbx
                  clear tbx
                  have HCN := Lib.hid (HR3.out.left_eq)
                  obtain ⟨wi, hwi⟩ : ∃ wi : World, wi = wr := ⟨_, rfl⟩
                  subst hwi
                  go_loopw [51] (fun i wq => ∃ j : Nat, j ≤ 4 ∧ i = .int .i64 j ∧ In4 A1 (some ⟨b', o', none⟩) c1 c2 K wb w wo.heap.size ⟨6, 0, 2, 0, 0, 0⟩ b (wo.heap.size + 1 + 1) (wo.heap.size + 1) (outN 3) cn2 (n2 + j) w6.heap.size (· ∈ outK 3) (fun s => done s ∨ s = (ta, tb, tc, td, te, tf)) (fun u => nextP 3 0 2 done u ∨ u ∈ (expand 0 2 (ta, tb, tc, td, te, tf)).take j) (ta, tb, tc, td, te, tf) wq) (fun i _ => 4 - (intOf i).toNat)
                  case atStart => exact ⟨0, by omega, rfl, ⟨HI6.out.keep hK ((Below.refl _ _).alloc (by omega) _) (Nat.lt_succ_self _), HR6.out.kept (World.grownBy_alloc _ _ none) (by simp) (by simp), (HT6.out.kept (World.grownBy_alloc _ _ none) (by simp)).congr (fun u => by simp), by omega, HTB.out⟩⟩
                  case round =>
                    clear HI6 HR6 HT6 HTB HR3 HT3 HI3 HM HT hs6 hz06
                    obtain ⟨j, hj, rfl, h4⟩ := hrel
                    have H4 := Lib.hid h4
                    have gz := h4.sz
                    have gz2 : wo.heap.size < wr.heap.size := (Array.getElem?_eq_some_iff.1 h4.in3.box).1
                    have gz3 := h4.rng.lt
                    have q1 := h4.tcell 0 _ rfl
                    have q2 := h4.tcell 1 _ rfl
                    have q3 := h4.tcell 2 _ rfl
                    have q4 := h4.tcell 3 _ rfl
                    have q5 := h4.tcell 4 _ rfl
                    have q6 := h4.tcell 5 _ rfl
                    have x1 := h4.in3.cell 1 _ rfl
                    have x2 := h4.in3.cell 2 _ rfl
                    have hnb : n2 + j < maxLen := by have : outN 3 = 1 := rfl; unfold maxLen; omega
                    clear h4
                    by_cases hlt : j < 4
                    · have hj4 : j = 0 ∨ j = 1 ∨ j = 2 ∨ j = 3 := by omega
                      rcases hj4 with rfl | rfl | rfl | rfl
                      · have i0 := idx0
                        go_wp2
                        go_region
                        go_wp2
                        go_region
                        go_wp2_with (at_mapUpdate; refine wpList_put_tots _ rfl _ _ _ rfl (wo.heap.size + 1) (n2 + 0) _ rfl (H4.out.tots2 _ _) hnb (play 0 2 3 0 (ta, tb, tc, td, te, tf)) (ok_play HOK.out _ _ _ _) true (play0_0 ta tb tc td te tf).symm rfl ?_; intro w7 ht7 hg7 hs7; have H7 := Lib.hid (H4.out.step hK _ _ (ht7.congr (expand_step rfl)) hg7 (by omega) (by omega) (by omega) (by omega)); clear ht7 hg7 hs7)
                        go_roundw
                        case rel => exact ⟨1, by omega, rfl, H7.out⟩
                        case measure => simp [intOf]
                      · have i0 := idx1
                        go_wp2
                        go_region
                        go_wp2
                        go_region
                        go_wp2_with (at_mapUpdate; refine wpList_put_tots _ rfl _ _ _ rfl (wo.heap.size + 1) (n2 + 1) _ rfl (H4.out.tots2 _ _) hnb (play 0 2 2 1 (ta, tb, tc, td, te, tf)) (ok_play HOK.out _ _ _ _) true (play0_1 ta tb tc td te tf).symm rfl ?_; intro w7 ht7 hg7 hs7; have H7 := Lib.hid (H4.out.step hK _ _ (ht7.congr (expand_step rfl)) hg7 (by omega) (by omega) (by omega) (by omega)); clear ht7 hg7 hs7)
                        go_roundw
                        case rel => exact ⟨2, by omega, rfl, H7.out⟩
                        case measure => simp [intOf]
                      · have i0 := idx2
                        go_wp2
                        go_region
                        go_wp2
                        go_region
                        go_wp2_with (at_mapUpdate; refine wpList_put_tots _ rfl _ _ _ rfl (wo.heap.size + 1) (n2 + 2) _ rfl (H4.out.tots2 _ _) hnb (play 0 2 1 2 (ta, tb, tc, td, te, tf)) (ok_play HOK.out _ _ _ _) true (play0_2 ta tb tc td te tf).symm rfl ?_; intro w7 ht7 hg7 hs7; have H7 := Lib.hid (H4.out.step hK _ _ (ht7.congr (expand_step rfl)) hg7 (by omega) (by omega) (by omega) (by omega)); clear ht7 hg7 hs7)
                        go_roundw
                        case rel => exact ⟨3, by omega, rfl, H7.out⟩
                        case measure => simp [intOf]
                      · have i0 := idx3
                        go_wp2
                        go_region
                        go_wp2
                        go_region
                        go_wp2_with (at_mapUpdate; refine wpList_put_tots _ rfl _ _ _ rfl (wo.heap.size + 1) (n2 + 3) _ rfl (H4.out.tots2 _ _) hnb (play 0 2 0 3 (ta, tb, tc, td, te, tf)) (ok_play HOK.out _ _ _ _) true (play0_3 ta tb tc td te tf).symm rfl ?_; intro w7 ht7 hg7 hs7; have H7 := Lib.hid (H4.out.step hK _ _ (ht7.congr (expand_step rfl)) hg7 (by omega) (by omega) (by omega) (by omega)); clear ht7 hg7 hs7)
                        go_roundw
                        case rel => exact ⟨4, by omega, rfl, H7.out⟩
                        case measure => simp [intOf]
                    · obtain rfl : j = 4 := by omega
                      go_wp2
                      go_roundw
                      case rel => exact ⟨_, cn2, H4.out.rng, n2 + 4, H4.out.tots.congr (expand_end HP6.out), by omega, H4.out.in3⟩
                      case measure => rw [H4.out.rng.left_eq, HCN.out]; exact hlt6
            · obtain rfl : (⟨8, 1, 0, 0, 0, 0⟩ : Gm) = gm := by simpa [smp] using hgm
              clear hgm h3 hlt hk
              dsimp only at *
              go_wp2_with (refine wpList_range_tots _ rfl _ rfl b (outN 4) _ rfl (tots_two HT.out _ _) (wr.heap.size + 1 + 1) (by simp) ?_; intro W5 cnt hrg hcn hgr5 hsz5)
              go_frame
              have I5 := Lib.hid (in_start (gm := ⟨8, 1, 0, 0, 0, 0⟩) HM.out hK hgr5)
              have HRG := Lib.hid hrg
              have HT5 := Lib.hid (tots_next HT.out (.cells #[.int .i64 8, .int .i64 1, .int .i64 0, .int .i64 0, .int .i64 0, .int .i64 0] 33) hgr5)
              clear hrg hgr5 g1 g2 g3 g4 g5 g6
              have hbw := HT.out.lt
              obtain ⟨wo, rfl⟩ : ∃ wo, wo = wr := ⟨_, rfl⟩
              go_loopw [46] (fun _ wq => ∃ (done : T6 → Prop) (cnt n2 : Nat), Rng wq b (wo.heap.size + 1 + 1) (outN 4) (· ∈ outK 4) done cnt ∧ Tots wq (wo.heap.size + 1) n2 (nextP 4 1 0 done) ∧ n2 + 4 * cnt ≤ 4 * outN 4 ∧ In3 A1 (some ⟨b', o', none⟩) c1 c2 K wb w wo.heap.size ⟨8, 1, 0, 0, 0, 0⟩ wq) (fun _ wq => wq.rangeLeft b (wo.heap.size + 1 + 1))
              case atStart => exact ⟨_, _, 0, by simpa using HRG.out, HT5.out.congr (by simp [nextP]), by omega, I5.out⟩
              case round =>
                clear HRG HT5 I5 hsz5 hcn q2
                obtain ⟨done, cn, n2, hr3, ht3, hn3, hi3⟩ := hrel
                have HR3 := Lib.hid hr3
                have HT3 := Lib.hid ht3
                have HI3 := Lib.hid hi3
                clear hr3 ht3 hi3
                go_wp2_with (at_next; refine wpList_next_tots _ rfl _ rfl b (wo.heap.size + 1 + 1) _ cn _ done rfl HR3.out (fun hc0 hd0 => ?_) (fun t c w6 cn2 hp0 hok0 hnd0 hrg0 hlt6 hgr0 hsz0 hen => ?_); (have HD := Lib.hid hd0; clear hd0 hc0); rotate_left; (have hr6 := hrg0.lt; have hs6 := Nat.le_of_eq hsz0.symm; have HP6 := Lib.hid hp0; have HOK := Lib.hid hok0; have HR6 := Lib.hid hrg0; have HI6 := Lib.hid (HI3.out.keep hK (below_it hgr0 (by omega) (by have := HR3.out.lt; omega)) (Nat.lt_succ_self _)); have HT6 := Lib.hid (HT3.out.kept hgr0 (by simp)); clear hp0 hok0 hrg0 hgr0 hnd0 hsz0; have j0 := HI6.out.mid.pts.2 0 _ rfl; have j1 := HI6.out.mid.pts.2 1 _ rfl; have j2 := HI6.out.mid.pts.2 2 _ rfl; have j3 := HI6.out.mid.pts.2 3 _ rfl; have j4 := HI6.out.mid.pts.2 4 _ rfl; have j5 := HI6.out.mid.pts.2 5 _ rfl; have j6 := HI6.out.mid.pts.2 6 _ rfl; have j7 := HI6.out.mid.pts.2 7 _ rfl; have hz06 : 0 < w6.heap.size := (by omega); obtain ⟨ta, tb, tc, td, te, tf⟩ := t; dsimp only [tv] at hen; dsimp only [tv]); rotate_left)
                · go_roundw
                  case rel => exact ⟨4 + 1, _, by omega, rfl, rfl, by omega, tots_end (HT3.out.mono (by have : outN 4 = 4 := rfl; have : outN (4 + 1) = 4 * 4 := rfl; omega)) HD.out rfl rfl, HI3.out.mid⟩
                  case measure => simp [intOf]
                · clear j0 j1 j2 j3 j4 j5 j6 j7 hen
                  have tbx := box_new w6 (.cells #[.int .i64 ta, .int .i64 tb, .int .i64 tc, .int .i64 td, .int .i64 te, .int .i64 tf] 66)
                  have HTB := Lib.hid tbx
                  clear tbx
                  have HCN := Lib.hid (HR3.out.left_eq)
                  obtain ⟨wi, hwi⟩ : ∃ wi : World, wi = wr := ⟨_, rfl⟩
                  subst hwi
                  go_loopw [51] (fun i wq => ∃ j : Nat, j ≤ 4 ∧ i = .int .i64 j ∧ In4 A1 (some ⟨b', o', none⟩) c1 c2 K wb w wo.heap.size ⟨8, 1, 0, 0, 0, 0⟩ b (wo.heap.size + 1 + 1) (wo.heap.size + 1) (outN 4) cn2 (n2 + j) w6.heap.size (· ∈ outK 4) (fun s => done s ∨ s = (ta, tb, tc, td, te, tf)) (fun u => nextP 4 1 0 done u ∨ u ∈ (expand 1 0 (ta, tb, tc, td, te, tf)).take j) (ta, tb, tc, td, te, tf) wq) (fun i _ => 4 - (intOf i).toNat)
                  case atStart => exact ⟨0, by omega, rfl, ⟨HI6.out.keep hK ((Below.refl _ _).alloc (by omega) _) (Nat.lt_succ_self _), HR6.out.kept (World.grownBy_alloc _ _ none) (by simp) (by simp), (HT6.out.kept (World.grownBy_alloc _ _ none) (by simp)).congr (fun u => by simp), by omega, HTB.out⟩⟩
                  case round =>
                    clear HI6 HR6 HT6 HTB HR3 HT3 HI3 HM HT hs6 hz06
                    obtain ⟨j, hj, rfl, h4⟩ := hrel
                    have H4 := Lib.hid h4
                    have gz := h4.sz
                    have gz2 : wo.heap.size < wr.heap.size := (Array.getElem?_eq_some_iff.1 h4.in3.box).1
                    have gz3 := h4.rng.lt
                    have q1 := h4.tcell 0 _ rfl
                    have q2 := h4.tcell 1 _ rfl
                    have q3 := h4.tcell 2 _ rfl
                    have q4 := h4.tcell 3 _ rfl
                    have q5 := h4.tcell 4 _ rfl
                    have q6 := h4.tcell 5 _ rfl
                    have x1 := h4.in3.cell 1 _ rfl
                    have x2 := h4.in3.cell 2 _ rfl
                    have hnb : n2 + j < maxLen := by have : outN 4 = 4 := rfl; unfold maxLen; omega
                    clear h4
                    by_cases hlt : j < 4
                    · have hj4 : j = 0 ∨ j = 1 ∨ j = 2 ∨ j = 3 := by omega
                      rcases hj4 with rfl | rfl | rfl | rfl
                      · have i0 := idx0
                        go_wp2
                        go_region
                        go_wp2
                        go_region
                        go_wp2_with (at_mapUpdate; refine wpList_put_tots _ rfl _ _ _ rfl (wo.heap.size + 1) (n2 + 0) _ rfl (H4.out.tots2 _ _) hnb (play 1 0 3 0 (ta, tb, tc, td, te, tf)) (ok_play HOK.out _ _ _ _) true (play1_0 ta tb tc td te tf).symm rfl ?_; intro w7 ht7 hg7 hs7; have H7 := Lib.hid (H4.out.step hK _ _ (ht7.congr (expand_step rfl)) hg7 (by omega) (by omega) (by omega) (by omega)); clear ht7 hg7 hs7)
                        go_roundw
                        case rel => exact ⟨1, by omega, rfl, H7.out⟩
                        case measure => simp [intOf]
                      · have i0 := idx1
                        go_wp2
                        go_region
                        go_wp2
                        go_region
                        go_wp2_with (at_mapUpdate; refine wpList_put_tots _ rfl _ _ _ rfl (wo.heap.size + 1) (n2 + 1) _ rfl (H4.out.tots2 _ _) hnb (play 1 0 2 1 (ta, tb, tc, td, te, tf)) (ok_play HOK.out _ _ _ _) true (play1_1 ta tb tc td te tf).symm rfl ?_; intro w7 ht7 hg7 hs7; have H7 := Lib.hid (H4.out.step hK _ _ (ht7.congr (expand_step rfl)) hg7 (by omega) (by omega) (by omega) (by omega)); clear ht7 hg7 hs7)
                        go_roundw
                        case rel => exact ⟨2, by omega, rfl, H7.out⟩
                        case measure => simp [intOf]
                      · have i0 := idx2
                        go_wp2
                        go_region
                        go_wp2
                        go_region
                        go_wp2_with (at_mapUpdate; refine wpList_put_tots _ rfl _ _ _ rfl (wo.heap.size + 1) (n2 + 2) _ rfl (H4.out.tots2 _ _) hnb (play 1 0 1 2 (ta, tb, tc, td, te, tf)) (ok_play HOK.out _ _ _ _) true (play1_2 ta tb tc td te tf).symm rfl ?_; intro w7 ht7 hg7 hs7; have H7 := Lib.hid (H4.out.step hK _ _ (ht7.congr (expand_step rfl)) hg7 (by omega) (by omega) (by omega) (by omega)); clear ht7 hg7 hs7)
                        go_roundw
                        case rel => exact ⟨3, by omega, rfl, H7.out⟩
                        case measure => simp [intOf]
                      · have i0 := idx3
                        go_wp2
                        go_region
                        go_wp2
                        go_region
                        go_wp2_with (at_mapUpdate; refine wpList_put_tots _ rfl _ _ _ rfl (wo.heap.size + 1) (n2 + 3) _ rfl (H4.out.tots2 _ _) hnb (play 1 0 0 3 (ta, tb, tc, td, te, tf)) (ok_play HOK.out _ _ _ _) true (play1_3 ta tb tc td te tf).symm rfl ?_; intro w7 ht7 hg7 hs7; have H7 := Lib.hid (H4.out.step hK _ _ (ht7.congr (expand_step rfl)) hg7 (by omega) (by omega) (by omega) (by omega)); clear ht7 hg7 hs7)
                        go_roundw
                        case rel => exact ⟨4, by omega, rfl, H7.out⟩
                        case measure => simp [intOf]
                    · obtain rfl : j = 4 := by omega
                      go_wp2
                      go_roundw
                      case rel => exact ⟨_, cn2, H4.out.rng, n2 + 4, H4.out.tots.congr (expand_end HP6.out), by omega, H4.out.in3⟩
                      case measure => rw [H4.out.rng.left_eq, HCN.out]; exact hlt6
        · obtain rfl : k = 5 := by omega
          go_wp2
          go_returns
          exact ⟨b, rfl, HT.out, HM.out.below⟩
end Go.Proofs.YtgbmmelkagcbdaaDoor
