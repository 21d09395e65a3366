/- LeagueTravel: the calls behind its loop. -/
import Derived.Test.YtgbmmelkagcbdaaDoorStep
namespace Go.Proofs.YtgbmmelkagcbdaaDoor
open Go.RowKit Go Go.Shelf
variable {A1 A2 : Option Addr} {c1 c2 : Nat} {l : Lg} {t : Int} {w W : World} {Bo Be : Nat} {G : List Gm} {Ao Ae : Option Addr} {co ce : Nat}
theorem Aft.lo_at (h : Aft A1 A2 c1 c2 l w Bo Be G Ao Ae co ce W) (hn : G.length ≤ 1000000) : LgAt W W.heap.size A1 Ao ⟨l.far, G⟩ :=
  ⟨h.st.at_.far.more (Nat.le_of_lt h.st.size), h.go, h.st.at_.l1, h.st.at_.l2, hn⟩
theorem Aft.le_at (h : Aft A1 A2 c1 c2 l w Bo Be G Ao Ae co ce W) (hn : (G ++ G).length ≤ 1000000) : LgAt W W.heap.size A1 Ae ⟨l.far, G ++ G⟩ :=
  ⟨h.st.at_.far.more (Nat.le_of_lt h.st.size), h.ge, h.st.at_.l1, h.st.at_.l2, hn⟩
theorem rest_own (h : Aft A1 A2 c1 c2 l w Bo Be G Ao Ae co ce W) (hG : owns l.gs t = G) (hb : leagueB l = true) (ht : 0 ≤ t) (ht2 : t < l.far.length) :
    Calls Tryd.prog 6 #[.agg #[.slice A1 l.far.length c1, .slice Ao G.length co], .int .i64 t] W fun e w' => e = .returned (.tuple #[.int .i64 (travel l t), .int .i64 0]) ∧ Below W.heap.size W w' := by
  have h1 := league_own t hb
  have h2 := travel_own l t
  rw [hG] at h1 h2
  have := travel_ok A1 Ao c1 co ⟨l.far, G⟩ t W (h.lo_at (by have := (good_of h1).g64; simp at this; omega)) h1 ht ht2
  rw [h2] at this
  exact this
theorem rest_two (h : Aft A1 A2 c1 c2 l w Bo Be G Ao Ae co ce W) (hG : owns l.gs t = G) (hL : largeB l 4 = false) (h32 : l.gs.length ≤ 32) (hb : leagueB l = true) (ht : 0 ≤ t) (ht2 : t < l.far.length) :
    Calls Tryd.prog 6 #[.agg #[.slice A1 l.far.length c1, .slice Ae (G.length + G.length) ce], .int .i64 t] W fun e w' => e = .returned (.tuple #[.int .i64 (travel ⟨l.far, G ++ G⟩ t), .int .i64 0]) ∧ Below W.heap.size W w' := by
  have h1 := league_twice t hL h32 hb
  rw [hG] at h1
  have := travel_ok A1 Ae c1 ce ⟨l.far, G ++ G⟩ t W (h.le_at (by have := (good_of h1).g64; simp only at this; omega)) h1 ht ht2
  simp only [List.length_append] at this
  exact this
/-- The sum, the last hall, and the numbers of the answer. -/
structure Nums (l : Lg) (t : Int) (G : List Gm) (S P : Int) : Prop where
  sum : travel l t = S + dist l.far P t
  s0 : 0 ≤ S
  s1 : S ≤ 3200000
  p0 : 0 ≤ P
  p1 : P < l.far.length
theorem nums_of (hG : owns l.gs t = G) (h32 : l.gs.length ≤ 32) (hb : leagueB l = true) (ht : 0 ≤ t) (ht2 : t < l.far.length) : Nums l t G (wayG l.far (0, t) G).1 (wayG l.far (0, t) G).2 := by
  have hg := good_of hb
  have hbd := owns_bd hg t l.gs.length
  rw [List.take_of_length_le (Nat.le_refl _), hG] at hbd
  obtain ⟨a1, a2, a3, a4⟩ := wayG_bd hg ht ht2 G hbd
  have hl : G.length ≤ 32 := by rw [← hG]; exact Nat.le_trans (owns_len _ _) h32
  refine ⟨?_, a1, by omega, a3, a4⟩
  rw [travel_eq, hG]
end Go.Proofs.YtgbmmelkagcbdaaDoor
