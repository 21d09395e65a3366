/- league.of: the iterator's contract. -/
import Derived.Test.YtgbmmelkagcbdaaDoorVali
import Derived.RangeFuncNested
import Derived.RangeFuncBound
import Derived.RangeFuncCalls
import Derived.RangeFuncLeaves
import Derived.RangeFuncBox
import Derived.Shelf.Abstract
import Derived.Shelf.RegionOpen
import Derived.OwnWalkIn
import Derived.TacticsInMore
import Derived.LoopNIn
import Derived.LoopIn
namespace Go.Proofs.YtgbmmelkagcbdaaDoor
open Go.RowKit Go Go.Shelf
attribute [local go_sem] Oper.semAt_some
theorem wide_fn (f : FuncId) : Fence.wide.fn f = True := rfl
theorem wide_depth : Fence.wide.depth = none := rfl
attribute [local go_sem] wide_fn wide_depth

/-- Below block n, but for the blocks of X, the world is as it was. -/
structure Keeps (n : Nat) (X : Nat → Bool) (w w' : World) : Prop where
  os : w'.os = w.os
  tape : w'.tape = w.tape
  output : w'.output = w.output
  size : w.heap.size ≤ w'.heap.size
  block : ∀ k, k < n → X k = false → w'.heap[k]? = w.heap[k]?
theorem Keeps.refl (n : Nat) (X : Nat → Bool) (w : World) : Keeps n X w w := ⟨rfl, rfl, rfl, Nat.le_refl _, fun _ _ _ => rfl⟩
theorem Keeps.trans {n : Nat} {X : Nat → Bool} {a b c : World} (h : Keeps n X a b) (k : Keeps n X b c) : Keeps n X a c :=
  ⟨k.os.trans h.os, k.tape.trans h.tape, k.output.trans h.output, Nat.le_trans h.size k.size, fun i hi hx => (k.block i hi hx).trans (h.block i hi hx)⟩
theorem Keeps.of_below {n B : Nat} {X : Nat → Bool} {w w' : World} (h : Below B w w') (hn : n ≤ B) : Keeps n X w w' := ⟨h.os, h.tape, h.output, h.size, fun k hk _ => h.block k (by omega)⟩
theorem Keeps.cell {n : Nat} {X : Nat → Bool} {w w' : World} (h : Keeps n X w w') {b o : Nat} (hb : b < n) (hx : X b = false) : w'.cell? ⟨b, o, none⟩ = w.cell? ⟨b, o, none⟩ := World.cell?_of_block (w := w) (h.block b hb hx)
theorem Keeps.putObj {n : Nat} {X : Nat → Bool} (W : World) (l : Nat) (o : Obj) (h : n ≤ l) : Keeps n X W (W.putObj l o) :=
  ⟨rfl, rfl, rfl, by simp, fun k hk _ => World.putObj_heap_other (fun e => by omega)⟩
theorem Keeps.setCell {n : Nat} {X : Nat → Bool} (W : World) {p : Addr} (v : Value) (h : n ≤ p.block ∨ X p.block = true) : Keeps n X W (W.setCell p v) :=
  ⟨rfl, rfl, rfl, by simp [World.setCell], fun k hk hx => Below.heap_setCell _ _ _ _ (by rintro rfl; rcases h with h | h; omega; rw [hx] at h; cases h)⟩
theorem grown_of_below {w w' : World} (h : Below w.heap.size w w') : w.grownBy w' none := ⟨h.os, h.tape, h.output, h.size, fun k hk _ => h.block k hk⟩

/-- The games of a team, with their indices. -/
def ofL (gs : List Gm) (t : Int) : List (Nat × Gm) := (gs.zipIdx.map fun p => (p.2, p.1)).filter fun p => hasB p.2 t
theorem ofL_snoc (gs : List Gm) (t : Int) (k : Nat) (g : Gm) (hg : gs[k]? = some g) : ofL (gs.take (k + 1)) t = ofL (gs.take k) t ++ (if hasB g t then [(k, g)] else []) := by
  obtain ⟨hl, rfl⟩ := List.getElem?_eq_some_iff.1 hg
  unfold ofL
  rw [List.take_succ_eq_append_getElem hl, List.zipIdx_append, List.map_append, List.filter_append]
  congr 1
  have : min k gs.length = k := by omega
  simp [List.filter_cons, this]
def encG (x : Nat × Gm) : Array Value := #[.int .i64 (x.1 : Int), .agg #[.int .i64 x.2.d, .int .i64 x.2.h, .int .i64 x.2.a, .int .i64 x.2.e, .int .i64 x.2.hg, .int .i64 x.2.ag]]
theorem ofL_len (gs : List Gm) (t : Int) (k : Nat) : (ofL (gs.take k) t).length ≤ k := by
  unfold ofL
  refine Nat.le_trans (List.length_filter_le _ _) ?_
  simp; omega
theorem ofL_prefix (gs : List Gm) (t : Int) (k : Nat) : ofL (gs.take k) t <+: ofL gs t := by
  unfold ofL
  conv => rhs; rw [← List.take_append_drop k gs]
  rw [List.zipIdx_append, List.map_append, List.filter_append]
  exact List.prefix_append _ _

set_option maxRecDepth 100000 in
set_option maxHeartbeats 2000000 in
theorem of1_in (l Bl Bt bl n₁ B c2 : Nat) (A2 : Option Addr) (lg : Lg) (t : Int) (X : Nat → Bool) (hBl : Bl < n₁ ∧ X Bl = false) (hBt : Bt < n₁ ∧ X Bt = false) (hbl : bl < n₁ ∧ X bl = false)
    (hB : B ≤ n₁) (hX : ∀ k, k < B → X k = false) (hl3 : lg.gs.length ≤ 1000000) (J Jx : List (Nat × Gm) → World → Prop) (W : World) (hn : n₁ ≤ W.heap.size) (hJ : AbidesFrom W.heap.size J)
    (hY : ∀ pre x W, J pre W → pre.length < lg.gs.length → lg.gs[x.1]? = some x.2 → hasB x.2 t = true → YieldAt Fence.wide 9 Tryd.prog l (encG x) W fun e W' =>
      (e = .returned (.bool true) ∧ J (pre ++ [x]) W' ∧ Keeps n₁ X W W') ∨ (e = .returned (.bool false) ∧ Jx (pre ++ [x]) W'))
    (h1 : W.cell? ⟨Bl, 0, none⟩ = some (.pointer (some ⟨bl, 0, none⟩))) (h2 : W.cell? ⟨Bt, 0, none⟩ = some (.int .i64 t))
    (h4 : W.cell? ⟨bl, 1, none⟩ = some (.slice A2 lg.gs.length c2)) (hg : GamesAt W B A2 lg.gs) (h0 : J [] W) :
    CallsIn Fence.wide 10 Tryd.prog 39 #[.func (.yield l) #[] #[], .pointer (some ⟨Bl, 0, none⟩), .pointer (some ⟨Bt, 0, none⟩)] W fun e W' => (∃ v, e = .returned v) ∧
      ((∃ ys, ys = ofL lg.gs t ∧ J ys W') ∨ (∃ pre, pre <+: ofL lg.gs t ∧ Jx pre W')) := by
  have HG := Lib.hid hg
  have HJ := Lib.hid hJ
  have HY := Lib.hid hY
  have HX := Lib.hid hX
  have H0 := Lib.hid h0
  clear hg hJ hY h0 hX
  obtain ⟨p1, p2⟩ := hBl
  obtain ⟨p3, p4⟩ := hBt
  obtain ⟨p5, p6⟩ := hbl
  have P2 := Lib.hid p2
  have P4 := Lib.hid p4
  have P6 := Lib.hid p6
  clear p2 p4 p6
  refine callsIn_of_wp Tryd.func39 rfl trivial ?_ rfl
  simp only [Tryd.ntmps39, List.size_toArray, List.length_cons, List.length_nil, Nat.reduceAdd, Nat.reduceSub, Array.replicate_succ, Array.replicate_zero, List.push_toArray, List.append_toArray, List.nil_append, List.cons_append]
  gi_wp2
  gi_loopw [11] (fun i wr => ∃ k : Nat, k ≤ lg.gs.length ∧ i = .int .i64 k ∧ J (ofL (lg.gs.take k) t) wr ∧ Keeps n₁ X W wr)
    (fun i _ => lg.gs.length - (intOf i).toNat)
  case atStart => exact ⟨0, Nat.zero_le _, rfl, by simpa [ofL] using H0.out, Keeps.refl _ _ _⟩
  case round =>
    obtain ⟨k, hk, rfl, hJs, hkp⟩ := hrel
    have HJS := Lib.hid hJs
    have HKP := Lib.hid hkp
    have hsz := hkp.size
    clear hJs hkp
    by_cases hlt : k < lg.gs.length
    · obtain ⟨g, hgk⟩ : ∃ g, lg.gs[k]? = some g := ⟨_, List.getElem?_eq_getElem hlt⟩
      obtain ⟨b, o, rfl, hb, g1, g2, g3, g4, g5, g6⟩ := HG.out.at_ hgk
      have hbx := HX.out b hb
      have hbn : b < n₁ := by omega
      have e1 := (HKP.out.cell hbn hbx).trans g1
      have e2 := (HKP.out.cell hbn hbx).trans g2
      have e3 := (HKP.out.cell hbn hbx).trans g3
      have e4 := (HKP.out.cell hbn hbx).trans g4
      have e5 := (HKP.out.cell hbn hbx).trans g5
      have e6 := (HKP.out.cell hbn hbx).trans g6
      have e7 := (HKP.out.cell p3 P4.out).trans h2
      have hsn := ofL_snoc lg.gs t k g hgk
      have hle := ofL_len lg.gs t k
      have z1 : Bt < wr.heap.size := by omega
      have HGK := Lib.hid hgk
      clear hbx g1 g2 g3 g4 g5 g6 hgk
      by_cases hh : hasB g t = true
      · rw [if_pos hh] at hsn
        have HSN := Lib.hid hsn
        clear hsn
        gi_wp2_with (gi_at_call 19; refine (callsIn_wide.2 (has_any _ _ _ _ _ _ _ _)).mono ?_; rintro e w1 ⟨rfl, hb1⟩; have hc1 := bcell hb1; have HJ1 := Lib.hid (HJ.out _ _ _ none HJS.out (grown_of_below (below_box hb1)) (fun r e => by cases e)); obtain ⟨fn, tmps, assign, body, hy, hR⟩ := HY.out _ (k, g) w1 HJ1.out (by omega) HGK.out hh; unfold encG at hy; dsimp only at hy)
        refine hR.mono ?_
        rintro e w2 (⟨rfl, hJ2, hk2⟩ | ⟨rfl, hJx2⟩)
        · have HJ2 := Lib.hid hJ2
          clear hJ2
          gi_wp2
          go_roundw
          case rel => exact ⟨k + 1, by omega, by go_num, by rw [HSN.out]; exact HJ2.out, (HKP.out.trans (Keeps.of_below (below_box hb1) (by omega))).trans hk2⟩
          case measure => simp [intOf]; omega
        · have HJx2 := Lib.hid hJx2
          clear hJx2
          gi_wp2
          refine bodyPost_ret (results_none rfl _ _ _) rfl ?_
          exact ⟨⟨_, rfl⟩, .inr ⟨_, by rw [← HSN.out]; exact ofL_prefix _ _ _, HJx2.out⟩⟩
      · rw [if_neg hh, List.append_nil] at hsn
        have HSN := Lib.hid hsn
        clear hsn
        gi_wp2_with (gi_at_call 19; refine (callsIn_wide.2 (has_any _ _ _ _ _ _ _ _)).mono ?_; rintro e w1 ⟨rfl, hb1⟩; have hc1 := bcell hb1)
        go_roundw
        case rel => exact ⟨k + 1, by omega, by go_num, by rw [HSN.out]; exact HJ.out _ _ _ none HJS.out (grown_of_below (below_box hb1)) (fun r e => by cases e), HKP.out.trans (Keeps.of_below (below_box hb1) (by omega))⟩
        case measure => simp [intOf]; omega
    · gi_wp2
      go_end0
      refine ⟨⟨_, rfl⟩, .inl ⟨_, rfl, ?_⟩⟩
      have := HJS.out
      rwa [List.take_of_length_le (by omega)] at this
theorem of_any (a : Option Addr) (t : Int) (w : World) : Calls Tryd.prog 16 #[.pointer a, .int .i64 t] w fun e w' =>
    e = .returned (.func (.func 39) #[] #[.pointer (some ⟨w.heap.size, 0, none⟩), .pointer (some ⟨w.heap.size + 1, 0, none⟩)]) ∧ (w.alloc (.cells #[.pointer a] 47)).alloc (.cells #[.int .i64 t] 3) = w' := by
  go_enter Tryd.func16, Tryd.ntmps16
  go_wp2
  go_ret
  exact ⟨rfl, rfl⟩
/-- What the iterator hands over: a game of the team, with its index. -/
abbrev OfX (lg : Lg) (t : Int) := { x : Nat × Gm // lg.gs[x.1]? = some x.2 ∧ hasB x.2 t = true }
theorem of_stops (Bl Bt bl n₁ B c2 : Nat) (A2 : Option Addr) (lg : Lg) (t : Int) (X : Nat → Bool) (hBl : Bl < n₁ ∧ X Bl = false) (hBt : Bt < n₁ ∧ X Bt = false) (hbl : bl < n₁ ∧ X bl = false)
    (hB : B ≤ n₁) (hX : ∀ k, k < B → X k = false) (hl3 : lg.gs.length ≤ 1000000) (w : World) (hn : n₁ ≤ w.heap.size)
    (h1 : w.cell? ⟨Bl, 0, none⟩ = some (.pointer (some ⟨bl, 0, none⟩))) (h2 : w.cell? ⟨Bt, 0, none⟩ = some (.int .i64 t))
    (h4 : w.cell? ⟨bl, 1, none⟩ = some (.slice A2 lg.gs.length c2)) (hg : GamesAt w B A2 lg.gs) :
    SeqStopsK Fence.wide 10 Tryd.prog 39 #[.pointer (some ⟨Bl, 0, none⟩), .pointer (some ⟨Bt, 0, none⟩)] (fun x : OfX lg t => encG x.1) (Keeps n₁ X) (fun ys => ys.map (·.1) = ofL lg.gs t) (fun pre => pre.map (·.1) <+: ofL lg.gs t) lg.gs.length w := fun l J Jx W hW hJ _ hY h0 => by
  refine (of1_in l Bl Bt bl n₁ B c2 A2 lg t X hBl hBt hbl hB hX hl3 (fun pre W => ∃ p : List (OfX lg t), p.map (·.1) = pre ∧ J p W) (fun pre W => ∃ p : List (OfX lg t), p.map (·.1) = pre ∧ Jx p W) W (by have := hW.size; omega)
    ?_ ?_ ((hW.cell (p := ⟨Bl, 0, none⟩) (by simp; omega)).trans h1) ((hW.cell (p := ⟨Bt, 0, none⟩) (by simp; omega)).trans h2)
    ((hW.cell (p := ⟨bl, 1, none⟩) (by simp; omega)).trans h4) (RowAt.below hg (hW.mono (by omega))) ⟨[], rfl, h0⟩).mono ?_
  · rintro s A B row ⟨p, hp, hj⟩ hg hr
    exact ⟨p, hp, hJ p A B row hj hg hr⟩
  · rintro pre x W1 ⟨p, hp, hj⟩ hlen hx1 hx2
    obtain ⟨fn, tmps, assign, body, hy, hR⟩ := hY p ⟨x, hx1, hx2⟩ W1 hj (by rw [← hp] at hlen; simpa using hlen)
    refine ⟨fn, tmps, assign, body, hy, hR.mono ?_⟩
    rintro e W' (⟨he, hj', hk⟩ | ⟨he, hj'⟩)
    · exact .inl ⟨he, ⟨_, by simp [hp], hj'⟩, hk⟩
    · exact .inr ⟨he, ⟨_, by simp [hp], hj'⟩⟩
  · rintro e W' ⟨he, (⟨ys, hys, p, hp, hj⟩ | ⟨pre, hpre, p, hp, hj⟩)⟩
    · exact ⟨he, .inl ⟨p, hp.trans hys, hj⟩⟩
    · exact ⟨he, .inr ⟨p, by dsimp only; rw [hp]; exact hpre, hj⟩⟩
end Go.Proofs.YtgbmmelkagcbdaaDoor
