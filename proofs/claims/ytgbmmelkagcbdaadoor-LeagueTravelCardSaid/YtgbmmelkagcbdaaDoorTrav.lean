/- league.Travel: the contract of its walk. -/
import Derived.Test.YtgbmmelkagcbdaaDoorOf
namespace Go.Proofs.YtgbmmelkagcbdaaDoor
open Go.RowKit Go Go.Shelf
attribute [local go_sem] Oper.semAt_some wide_fn wide_depth

def dist (far : List (List Int)) (a b : Int) : Int := (far.getD a.toNat []).getD b.toNat 0
/-- The way so far, and the hall where the team is. -/
def wayS (far : List (List Int)) (t : Int) (L : List (Nat × Gm)) : Int × Int := L.foldl (fun s x => (s.1 + dist far s.2 x.2.h, x.2.h)) (0, t)
theorem wayS_snoc (far : List (List Int)) (t : Int) (L : List (Nat × Gm)) (x : Nat × Gm) : wayS far t (L ++ [x]) = ((wayS far t L).1 + dist far (wayS far t L).2 x.2.h, x.2.h) := by
  simp [wayS, List.foldl_append]
def travel (l : Lg) (t : Int) : Int := (wayS l.far t (ofL l.gs t)).1 + dist l.far (wayS l.far t (ofL l.gs t)).2 t
theorem Good.dist_bd {l : Lg} (h : Good l) {a b : Int} (ha : 0 ≤ a) (ha2 : a < l.far.length) (hb : 0 ≤ b) (hb2 : b < l.far.length) :
    ∃ r, l.far[a.toNat]? = some r ∧ r.length = l.far.length ∧ r[b.toNat]? = some (dist l.far a b) ∧ 0 ≤ dist l.far a b ∧ dist l.far a b ≤ 100000 := by
  have hl : a.toNat < l.far.length := by omega
  have hr := h.row a.toNat _ (List.getElem?_eq_getElem hl)
  have hl2 : b.toNat < l.far[a.toNat].length := by omega
  have hd : dist l.far a b = l.far[a.toNat][b.toNat] := by
    unfold dist
    have e1 : l.far.getD a.toNat [] = l.far[a.toNat] := by simp [List.getD_eq_getElem?_getD, List.getElem?_eq_getElem hl]
    rw [e1]
    simp [List.getD_eq_getElem?_getD, List.getElem?_eq_getElem hl2]
  have he := h.ent a.toNat b.toNat _ _ (List.getElem?_eq_getElem hl) (List.getElem?_eq_getElem hl2)
  rw [← hd] at he
  simp only [inB, Bool.and_eq_true, decide_eq_true_eq] at he
  exact ⟨_, List.getElem?_eq_getElem hl, hr, by rw [List.getElem?_eq_getElem hl2, hd], he.1, he.2⟩
theorem gameB_bd {g : Gm} {n : Int} (h : gameB g n = true) : 0 ≤ g.h ∧ g.h < n ∧ 0 ≤ g.a ∧ g.a < n := by
  simp only [gameB, inB, Bool.and_eq_true, decide_eq_true_eq] at h
  omega
theorem Good.game_bd {l : Lg} (h : Good l) {j : Nat} {g : Gm} (hg : l.gs[j]? = some g) : 0 ≤ g.h ∧ g.h < l.far.length ∧ 0 ≤ g.a ∧ g.a < l.far.length := gameB_bd (h.game j g hg)
theorem way_bd {l : Lg} {t : Int} (h : Good l) (ht : 0 ≤ t) (ht2 : t < l.far.length) (p : List (OfX l t)) :
    0 ≤ (wayS l.far t (p.map (·.1))).1 ∧ (wayS l.far t (p.map (·.1))).1 ≤ 100000 * p.length ∧ 0 ≤ (wayS l.far t (p.map (·.1))).2 ∧ (wayS l.far t (p.map (·.1))).2 < l.far.length := by
  have key : ∀ q : List (OfX l t), 0 ≤ (wayS l.far t (q.reverse.map (·.1))).1 ∧ (wayS l.far t (q.reverse.map (·.1))).1 ≤ 100000 * q.length ∧ 0 ≤ (wayS l.far t (q.reverse.map (·.1))).2 ∧ (wayS l.far t (q.reverse.map (·.1))).2 < l.far.length := by
    intro q
    induction q with
    | nil => exact ⟨by simp [wayS], by simp [wayS], by simpa [wayS] using ht, by simpa [wayS] using ht2⟩
    | cons x q ih =>
      obtain ⟨i1, i2, i3, i4⟩ := ih
      rw [List.reverse_cons, List.map_append, List.map_singleton, wayS_snoc]
      obtain ⟨g1, g2, _, _⟩ := h.game_bd x.2.1
      obtain ⟨_, _, _, _, d1, d2⟩ := h.dist_bd i3 i4 g1 g2
      refine ⟨by dsimp only; omega, ?_, g1, g2⟩
      dsimp only
      rw [List.length_cons]
      omega
  have := key p.reverse
  simpa using this

set_option maxHeartbeats 400000 in
theorem isTeam_any (b n1 c1 : Nat) (A1 : Option Addr) (t : Int) (w : World) (hn : n1 ≤ 1000000) (h : w.cell? ⟨b, 0, none⟩ = some (.slice A1 n1 c1)) :
    Calls Tryd.prog 15 #[.pointer (some ⟨b, 0, none⟩), .int .i64 t] w fun e w' => e = .returned (.bool (inB t 0 (n1 - 1))) ∧ w = w' := by
  go_enter Tryd.func15, Tryd.ntmps15
  go_wp2_with (go_at_call 34; refine (within_any _ _ _ _).mono ?_; rintro e w' ⟨rfl, rfl⟩)
  go_ret
  exact ⟨rfl, rfl⟩

set_option maxHeartbeats 1000000 in
theorem travel_bad (A1 A2 : Option Addr) (c1 c2 : Nat) (l : Lg) (t : Int) (w : World) (hl : LgAt w w.heap.size A1 A2 l) (hb : leagueB l = false) :
    Calls Tryd.prog 6 #[lgv A1 l.far.length c1 A2 l.gs.length c2, .int .i64 t] w fun e w' => e = .returned (.tuple #[.int .i64 0, .int .i64 1]) ∧ Below w.heap.size w w' := by
  have HL := Lib.hid (hl.below ((Below.refl _ _).alloc (Nat.le_refl _) (.cells #[.slice A1 l.far.length c1, .slice A2 l.gs.length c2] 25)))
  clear hl
  go_enter Tryd.func6, Tryd.ntmps6
  go_wp2_with (go_at_call 14; refine (isLeague_any _ _ _ _ l _ (HL.out.more (by simp))).mono ?_; rintro e w1 ⟨rfl, hb1⟩)
  go_ret2
  exact ⟨rfl, below_box hb1⟩
set_option maxHeartbeats 1000000 in
theorem travel_range (A1 A2 : Option Addr) (c1 c2 : Nat) (l : Lg) (t : Int) (w : World) (hl : LgAt w w.heap.size A1 A2 l) (hb : leagueB l = true) (ht : inB t 0 ((l.far.length : Int) - 1) = false) :
    Calls Tryd.prog 6 #[lgv A1 l.far.length c1 A2 l.gs.length c2, .int .i64 t] w fun e w' => e = .returned (.tuple #[.int .i64 0, .int .i64 2]) ∧ Below w.heap.size w w' := by
  have HL := Lib.hid (hl.below ((Below.refl _ _).alloc (Nat.le_refl _) (.cells #[.slice A1 l.far.length c1, .slice A2 l.gs.length c2] 25)))
  have hn1 := hl.l1
  clear hl
  go_enter Tryd.func6, Tryd.ntmps6
  go_wp2_with (first | (go_at_call 14; refine (isLeague_any _ _ _ _ l _ (HL.out.more (by simp))).mono ?_; rintro e w1 ⟨rfl, hb1⟩; have hc1 := bcell hb1; have q1 : w1.cell? ⟨w.heap.size, 0, none⟩ = some (.slice A1 l.far.length c1) := by rw [hc1 _ _ (by simp)]; simp) | (go_at_call 15; refine (isTeam_any _ _ _ _ _ _ hn1 q1).mono ?_; rintro e w2 ⟨rfl, rfl⟩))
  go_ret2
  exact ⟨rfl, below_box hb1⟩
end Go.Proofs.YtgbmmelkagcbdaaDoor
