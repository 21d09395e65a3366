/- LeagueTravel: the contract of its walk. -/
import Derived.Test.YtgbmmelkagcbdaaDoorLarg
import Derived.BigRegion
import Derived.Deep.RegionHeld3
import Derived.Deep.RegionWith
import Derived.Deep.DeepCutAuto
namespace Go.Proofs.YtgbmmelkagcbdaaDoor
open Go.RowKit Go Go.Shelf

/-- The points, as they are laid. -/
def Pts (w : World) : Prop := 0 < w.heap.size ∧ ∀ i v, ([3, 0, 2, 1, 1, 2, 0, 3] : List Int)[i]? = some v → w.cell? ⟨0, i, none⟩ = some (.int .i64 v)
theorem Pts.below {w w' : World} {B : Nat} (h : Pts w) (hb : Below B w w') (hB : 0 < B) : Pts w' := ⟨by have := hb.size; have := h.1; omega, fun i v hv => (hb.cell (p := ⟨0, i, none⟩) hB).trans (h.2 i v hv)⟩
/-- What awake comes to (proved elsewhere). -/
def AwakeSaid : Prop := ∀ w : World, Pts w → Calls Tryd.prog 5 #[] w fun e w' => e = .returned (.bool true) ∧ Below w.heap.size w w'
set_option maxRecDepth 100000 in
set_option maxHeartbeats 4000000 in
theorem main_large (awake_any : AwakeSaid) (A1 A2 : Option Addr) (c1 c2 : Nat) (l : Lg) (t : Int) (w : World) (hp : Pts w) (hF : FarAt w w.heap.size A1 l.far) (hG : GamesAt w w.heap.size A2 l.gs) (hL : largeB l 4 = true) :
    Calls Tryd.prog 3 #[lgv A1 l.far.length c1 A2 l.gs.length c2, .int .i64 t] w fun e w' => e = .returned (.bool true) ∧ Below w.heap.size w w' := by
  have hb0 : Below w.heap.size w (w.alloc (.cells #[.slice A1 l.far.length c1, .slice A2 l.gs.length c2] 25)) := (Below.refl _ _).alloc (Nat.le_refl _) _
  have HF := Lib.hid ((hF.below hb0).more (B' := (w.alloc (.cells #[.slice A1 l.far.length c1, .slice A2 l.gs.length c2] 25)).heap.size) (by simp))
  have HG : Hid (GamesAt _ (w.alloc (.cells #[.slice A1 l.far.length c1, .slice A2 l.gs.length c2] 25)).heap.size A2 l.gs) := Lib.hid ((RowAt.below hG hb0).more (by simp))
  have HP := Lib.hid (hp.below hb0 (by have := hp.1; omega))
  clear hF hG hp
  go_enter Tryd.func3, Tryd.ntmps3
  go_wp2_with (first | (go_at_call 4; refine (large_any _ _ _ _ l _ _ HF.out HG.out).mono ?_; rintro e w1 ⟨rfl, hb1⟩) | (go_at_call 5; refine (awake_any _ (HP.out.below hb1 (by simp))).mono ?_; rintro e w2 ⟨rfl, hb2⟩))
  go_ret
  exact ⟨rfl, (below_box hb1).trans (hb2.mono (by have := hb1.size; simp at this; omega))⟩
set_option maxRecDepth 100000 in
set_option maxHeartbeats 4000000 in
theorem main_long (awake_any : AwakeSaid) (A1 A2 : Option Addr) (c1 c2 : Nat) (l : Lg) (t : Int) (w : World) (hp : Pts w) (hF : FarAt w w.heap.size A1 l.far) (hG : GamesAt w w.heap.size A2 l.gs) (hL : largeB l 4 = false) (h32 : 32 < l.gs.length) (h64 : l.gs.length ≤ 68) :
    Calls Tryd.prog 3 #[lgv A1 l.far.length c1 A2 l.gs.length c2, .int .i64 t] w fun e w' => e = .returned (.bool true) ∧ Below w.heap.size w w' := by
  have hb0 : Below w.heap.size w (w.alloc (.cells #[.slice A1 l.far.length c1, .slice A2 l.gs.length c2] 25)) := (Below.refl _ _).alloc (Nat.le_refl _) _
  have HF := Lib.hid ((hF.below hb0).more (B' := (w.alloc (.cells #[.slice A1 l.far.length c1, .slice A2 l.gs.length c2] 25)).heap.size) (by simp))
  have HG : Hid (GamesAt _ (w.alloc (.cells #[.slice A1 l.far.length c1, .slice A2 l.gs.length c2] 25)).heap.size A2 l.gs) := Lib.hid ((RowAt.below hG hb0).more (by simp))
  have HP := Lib.hid (hp.below hb0 (by have := hp.1; omega))
  clear hF hG hp
  go_enter Tryd.func3, Tryd.ntmps3
  go_wp2_with (first | (go_at_call 4; refine (large_any _ _ _ _ l _ _ HF.out HG.out).mono ?_; rintro e w1 ⟨rfl, hb1⟩; have q2 : w1.cell? ⟨w.heap.size, 1, none⟩ = some (.slice A2 l.gs.length c2) := by rw [bcell hb1 _ _ (by simp)]; simp) | (go_at_call 5; refine (awake_any _ (HP.out.below hb1 (by simp))).mono ?_; rintro e w2 ⟨rfl, hb2⟩))
  go_ret
  exact ⟨rfl, (below_box hb1).trans (hb2.mono (by have := hb1.size; simp at this; omega))⟩
/-- The world behind the first tests. -/
structure St (A1 A2 : Option Addr) (c1 c2 : Nat) (l : Lg) (w w1 : World) : Prop where
  below : Below w.heap.size w w1
  size : w.heap.size < w1.heap.size
  c0 : w1.cell? ⟨w.heap.size, 0, none⟩ = some (.slice A1 l.far.length c1)
  c1 : w1.cell? ⟨w.heap.size, 1, none⟩ = some (.slice A2 l.gs.length c2)
  at_ : LgAt w1 w.heap.size A1 A2 l
  pts : Pts w1
theorem St.keepN {A1 A2 : Option Addr} {c1 c2 : Nat} {l : Lg} {w w1 w2 : World} {n : Nat} (h : St A1 A2 c1 c2 l w w1) (hb : Below n w1 w2) (hn : w.heap.size < n) : St A1 A2 c1 c2 l w w2 :=
  ⟨h.below.trans (hb.mono (by omega)), by have := h.size; have := hb.size; omega, by rw [bcell hb _ _ hn]; exact h.c0, by rw [bcell hb _ _ hn]; exact h.c1, h.at_.below (hb.mono (by omega)), h.pts.below hb (by omega)⟩
theorem St.keep {A1 A2 : Option Addr} {c1 c2 : Nat} {l : Lg} {w w1 w2 : World} (h : St A1 A2 c1 c2 l w w1) (hb : Below w1.heap.size w1 w2) : St A1 A2 c1 c2 l w w2 :=
  ⟨h.below.trans (hb.mono h.below.size), by have := h.size; have := hb.size; omega, by rw [bcell hb _ _ h.size]; exact h.c0, by rw [bcell hb _ _ h.size]; exact h.c1, h.at_.below (hb.mono h.below.size), h.pts.below hb (by have := h.size; omega)⟩
theorem st_start {A1 A2 : Option Addr} (c1 c2 : Nat) {l : Lg} {w : World} (hp : Pts w) (hl : LgAt w w.heap.size A1 A2 l) : St A1 A2 c1 c2 l w (w.alloc (.cells #[.slice A1 l.far.length c1, .slice A2 l.gs.length c2] 25)) :=
  ⟨(Below.refl _ _).alloc (Nat.le_refl _) _, by simp, by simp, by simp, hl.below ((Below.refl _ _).alloc (Nat.le_refl _) _), hp.below ((Below.refl _ _).alloc (Nat.le_refl _) _) (by have := hp.1; omega)⟩
set_option maxRecDepth 100000 in
set_option maxHeartbeats 4000000 in
theorem main_bad (awake_any : AwakeSaid) (A1 A2 : Option Addr) (c1 c2 : Nat) (l : Lg) (t : Int) (w : World) (hp : Pts w) (hl : LgAt w w.heap.size A1 A2 l) (hL : largeB l 4 = false) (h32 : l.gs.length ≤ 32) (hb : leagueB l = false) :
    Calls Tryd.prog 3 #[lgv A1 l.far.length c1 A2 l.gs.length c2, .int .i64 t] w fun e w' => e = .returned (.bool true) ∧ Below w.heap.size w w' := by
  have S0 := Lib.hid (st_start c1 c2 hp hl)
  clear hl hp
  go_enter Tryd.func3, Tryd.ntmps3
  go_wp2_with (first | (go_at_call 4; refine (large_any _ _ _ _ l _ _ (S0.out.at_.far.more (by simp)) (S0.out.at_.gs.more (by simp))).mono ?_; rintro e w1 ⟨rfl, hb1⟩; have S1 := Lib.hid (S0.out.keep hb1); have q1 := S1.out.c0; have q2 := S1.out.c1) | (go_at_call 6; refine (travel_bad _ _ _ _ l _ _ (S1.out.at_.more S1.out.below.size) hb).mono ?_; rintro e w2 ⟨rfl, hb2⟩; have S2 := Lib.hid (S1.out.keep hb2); clear q1 q2; have q1 := S2.out.c0; have q2 := S2.out.c1) | (go_at_call 5; refine (awake_any _ S2.out.pts).mono ?_; rintro e w3 ⟨rfl, hb3⟩))
  go_ret
  exact ⟨rfl, (S2.out.keep hb3).below⟩
set_option maxRecDepth 100000 in
set_option maxHeartbeats 4000000 in
theorem main_range (awake_any : AwakeSaid) (A1 A2 : Option Addr) (c1 c2 : Nat) (l : Lg) (t : Int) (w : World) (hp : Pts w) (hl : LgAt w w.heap.size A1 A2 l) (hL : largeB l 4 = false) (h32 : l.gs.length ≤ 32) (hb : leagueB l = true) (ht : inB t 0 ((l.far.length : Int) - 1) = false) :
    Calls Tryd.prog 3 #[lgv A1 l.far.length c1 A2 l.gs.length c2, .int .i64 t] w fun e w' => e = .returned (.bool true) ∧ Below w.heap.size w w' := by
  have S0 := Lib.hid (st_start c1 c2 hp hl)
  clear hl hp
  go_enter Tryd.func3, Tryd.ntmps3
  go_wp2_with (first | (go_at_call 4; refine (large_any _ _ _ _ l _ _ (S0.out.at_.far.more (by simp)) (S0.out.at_.gs.more (by simp))).mono ?_; rintro e w1 ⟨rfl, hb1⟩; have S1 := Lib.hid (S0.out.keep hb1); have q1 := S1.out.c0; have q2 := S1.out.c1) | (go_at_call 6; refine (travel_range _ _ _ _ l _ _ (S1.out.at_.more S1.out.below.size) hb ht).mono ?_; rintro e w2 ⟨rfl, hb2⟩; have S2 := Lib.hid (S1.out.keep hb2); clear q1 q2; have q1 := S2.out.c0; have q2 := S2.out.c1) | (go_at_call 5; refine (awake_any _ S2.out.pts).mono ?_; rintro e w3 ⟨rfl, hb3⟩))
  go_ret
  exact ⟨rfl, (S2.out.keep hb3).below⟩
end Go.Proofs.YtgbmmelkagcbdaaDoor
