/- The plain law of LeagueTravel: the way of a team's own games, and of its own games twice. No condition beyond the lemmas' own. -/
import Derived.Test.YtgbmmelkagcbdaaDoorLarg
namespace Go.Proofs.YtgbmmelkagcbdaaDoor
open Go.RowKit Go Go.Shelf

def wayG (far : List (List Int)) (s : Int × Int) (L : List Gm) : Int × Int := L.foldl (fun s g => (s.1 + dist far s.2 g.h, g.h)) s
theorem wayS_G (far : List (List Int)) (t : Int) (L : List (Nat × Gm)) : wayS far t L = wayG far (0, t) (L.map (·.2)) := by
  unfold wayS wayG
  rw [List.foldl_map]
def owns (gs : List Gm) (t : Int) : List Gm := gs.filter (hasB · t)
theorem wayG_bd {l : Lg} (h : Good l) {t : Int} (ht : 0 ≤ t) (ht2 : t < l.far.length) (L : List Gm) (hL : ∀ g ∈ L, 0 ≤ g.h ∧ g.h < l.far.length) :
    0 ≤ (wayG l.far (0, t) L).1 ∧ (wayG l.far (0, t) L).1 ≤ 100000 * L.length ∧ 0 ≤ (wayG l.far (0, t) L).2 ∧ (wayG l.far (0, t) L).2 < l.far.length := by
  have key : ∀ q : List Gm, (∀ g ∈ q, 0 ≤ g.h ∧ g.h < l.far.length) → 0 ≤ (wayG l.far (0, t) q.reverse).1 ∧ (wayG l.far (0, t) q.reverse).1 ≤ 100000 * q.length ∧ 0 ≤ (wayG l.far (0, t) q.reverse).2 ∧ (wayG l.far (0, t) q.reverse).2 < l.far.length := by
    intro q
    induction q with
    | nil => exact fun _ => ⟨by simp [wayG], by simp [wayG], by simpa [wayG] using ht, by simpa [wayG] using ht2⟩
    | cons x q ih =>
      intro hq
      obtain ⟨i1, i2, i3, i4⟩ := ih (fun g hg => hq g (List.mem_cons_of_mem _ hg))
      obtain ⟨g1, g2⟩ := hq x List.mem_cons_self
      obtain ⟨_, _, _, _, d1, d2⟩ := h.dist_bd i3 i4 g1 g2
      have e : wayG l.far (0, t) (x :: q).reverse = ((wayG l.far (0, t) q.reverse).1 + dist l.far (wayG l.far (0, t) q.reverse).2 x.h, x.h) := by
        simp [wayG, List.foldl_append]
      rw [e]
      refine ⟨by dsimp only; omega, ?_, g1, g2⟩
      dsimp only
      rw [List.length_cons]
      omega
  have := key L.reverse (fun g hg => hL g (by simpa using hg))
  simpa using this
theorem ofL_owns (gs : List Gm) (t : Int) : (ofL gs t).map (·.2) = owns gs t := by
  unfold ofL owns
  have : ∀ (l : List Gm) (k : Nat), List.map (fun x : Nat × Gm => x.2) (List.filter (fun p => hasB p.2 t) (List.map (fun p : Gm × Nat => (p.2, p.1)) (l.zipIdx k))) = l.filter (hasB · t) := by
    intro l
    induction l with
    | nil => intro k; rfl
    | cons x l ih =>
      intro k
      rw [List.zipIdx_cons, List.map_cons, List.filter_cons, List.filter_cons]
      by_cases h : hasB x t = true
      · simp [h, ih]
      · simp [h, ih]
  exact this gs 0
theorem travel_eq (l : Lg) (t : Int) : travel l t = (wayG l.far (0, t) (owns l.gs t)).1 + dist l.far (wayG l.far (0, t) (owns l.gs t)).2 t := by
  unfold travel
  rw [wayS_G, ofL_owns]
theorem owns_bd {l : Lg} (h : Good l) (t : Int) (k : Nat) : ∀ g ∈ owns (l.gs.take k) t, 0 ≤ g.h ∧ g.h < l.far.length := fun g hg => by
  obtain ⟨j, hj⟩ := List.mem_iff_getElem?.1 (List.mem_of_mem_take (List.mem_filter.1 hg).1)
  have := h.game_bd hj
  exact ⟨this.1, this.2.1⟩
theorem owns_take_len (gs : List Gm) (t : Int) (k : Nat) : (owns (gs.take k) t).length ≤ k := Nat.le_trans (List.length_filter_le _ _) (List.length_take_le _ _)
theorem wayG_snoc (far : List (List Int)) (s : Int × Int) (A : List Gm) (g : Gm) : wayG far s (A ++ [g]) = ((wayG far s A).1 + dist far (wayG far s A).2 g.h, g.h) := by simp [wayG, List.foldl_append]
theorem owns_owns (gs : List Gm) (t : Int) : owns (owns gs t) t = owns gs t := by simp [owns]
theorem owns_append (a b : List Gm) (t : Int) : owns (a ++ b) t = owns a t ++ owns b t := by simp [owns]
theorem owns_len (gs : List Gm) (t : Int) : (owns gs t).length ≤ gs.length := List.length_filter_le _ _
theorem owns_snoc (gs : List Gm) (t : Int) (k : Nat) (g : Gm) (hg : gs[k]? = some g) : owns (gs.take (k + 1)) t = owns (gs.take k) t ++ (if hasB g t then [g] else []) := by
  obtain ⟨hl, rfl⟩ := List.getElem?_eq_some_iff.1 hg
  unfold owns
  rw [List.take_succ_eq_append_getElem hl, List.filter_append]
  simp [List.filter_cons]
theorem travel_own (l : Lg) (t : Int) : travel { far := l.far, gs := owns l.gs t } t = travel l t := by
  rw [travel_eq, travel_eq]
  simp only [owns_owns]
theorem wayG_shift (far : List (List Int)) (L : List Gm) : ∀ (a b p : Int), (wayG far (a, p) L).1 - a = (wayG far (b, p) L).1 - b ∧ (wayG far (a, p) L).2 = (wayG far (b, p) L).2 := by
  induction L with
  | nil => intro a b p; simp [wayG]
  | cons g L ih =>
    intro a b p
    have := ih (a + dist far p g.h) (b + dist far p g.h) g.h
    simp only [wayG, List.foldl_cons] at this ⊢
    refine ⟨by omega, this.2⟩
theorem wayG_cons (far : List (List Int)) (s : Int × Int) (g : Gm) (L : List Gm) : wayG far s (g :: L) = wayG far (s.1 + dist far s.2 g.h, g.h) L := rfl
theorem wayG_append (far : List (List Int)) (s : Int × Int) (A B : List Gm) : wayG far s (A ++ B) = wayG far (wayG far s A) B := by simp [wayG, List.foldl_append]
theorem travel_twice (l : Lg) (t : Int) (g : Gm) (L : List Gm) (h : owns l.gs t = g :: L) :
    travel { far := l.far, gs := owns l.gs t ++ owns l.gs t } t = 2 * travel l t - dist l.far (wayG l.far (0, t) (owns l.gs t)).2 t - dist l.far t g.h + dist l.far (wayG l.far (0, t) (owns l.gs t)).2 g.h := by
  rw [travel_eq, travel_eq]
  simp only [owns_append, owns_owns, wayG_append]
  rw [h]
  generalize hA : wayG l.far (0, t) (g :: L) = A
  obtain ⟨S, p⟩ := A
  have e1 : wayG l.far (0 + dist l.far t g.h, g.h) L = (S, p) := by rw [← hA]; rfl
  have e2 := wayG_shift l.far L (0 + dist l.far t g.h) (S + dist l.far p g.h) g.h
  rw [wayG_cons]
  dsimp only at e2 ⊢
  rw [e1] at e2
  dsimp only at e2
  rw [← e2.2]
  omega
theorem travel_none (l : Lg) (t : Int) (h : owns l.gs t = []) : travel { far := l.far, gs := owns l.gs t ++ owns l.gs t } t = travel l t := by
  rw [travel_eq, travel_eq]
  simp only [h, List.append_nil]
  rfl
theorem openN_own (gs : List Gm) (t : Int) : openN (owns gs t) ≤ openN gs := by
  unfold openN owns
  rw [List.countP_filter]
  apply List.countP_mono_left
  intro x _ hx
  simp at hx ⊢
  exact hx.1
theorem league_sub {l : Lg} {gs : List Gm} (h : leagueB l = true) (hs : ∀ g ∈ gs, g ∈ l.gs) (hn : gs.length ≤ 64) (ho : openN gs ≤ 8) : leagueB { far := l.far, gs := gs } = true := by
  simp only [leagueB, Bool.and_eq_true, decide_eq_true_eq, List.all_eq_true, Bool.not_eq_true'] at h ⊢
  obtain ⟨⟨⟨⟨h1, h2⟩, h3⟩, h4⟩, h5⟩ := h
  exact ⟨⟨⟨⟨h1, hn⟩, fun g hg => h3 g (hs g hg)⟩, h4⟩, ho⟩
theorem open4 {l : Lg} (h : largeB l 4 = false) (hb : leagueB l = true) : openN l.gs ≤ 4 := by
  have := (good_of hb).o8
  simp only [largeB, Bool.or_eq_false_iff, Bool.and_eq_false_iff, decide_eq_false_iff_not] at h
  omega
theorem league_own {l : Lg} (t : Int) (hb : leagueB l = true) : leagueB { far := l.far, gs := owns l.gs t } = true :=
  league_sub hb (fun _ hg => (List.mem_filter.1 hg).1) (Nat.le_trans (owns_len _ _) (good_of hb).g64) (Nat.le_trans (openN_own _ _) (good_of hb).o8)
theorem league_twice {l : Lg} (t : Int) (hL : largeB l 4 = false) (h32 : l.gs.length ≤ 32) (hb : leagueB l = true) : leagueB { far := l.far, gs := owns l.gs t ++ owns l.gs t } = true := by
  have h1 := owns_len l.gs t
  have h2 := openN_own l.gs t
  have h3 := open4 hL hb
  refine league_sub hb (fun g hg => ?_) (by rw [List.length_append]; omega) (by unfold openN at *; rw [List.countP_append]; omega)
  rcases List.mem_append.1 hg with h | h <;> exact (List.mem_filter.1 h).1
end Go.Proofs.YtgbmmelkagcbdaaDoor
