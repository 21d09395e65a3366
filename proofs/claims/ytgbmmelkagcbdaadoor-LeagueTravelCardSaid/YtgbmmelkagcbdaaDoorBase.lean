/- Words for memory: rows of cells that read as lists, and what keeps them. Plain lemmas: no condition. -/
import Derived.Test.YtgbmmelkagcbdaaDoorRows
import Derived.WalkKit
import Derived.WalkSpells
import Derived.WalkLawsBesides
import Derived.BigQuiet
import Derived.Deep.QuietTactic
import Derived.Lib.Hide
import Derived.Outline
namespace Go.Proofs.YtgbmmelkagcbdaaDoor
open Go.RowKit Go

theorem ret_bool {a b : Bool} (h : a = b) : Ending.returned (.bool a) = .returned (.bool b) := by rw [h]
theorem ret_int {a b : Int} (h : a = b) : Ending.returned (.int .i64 a) = .returned (.int .i64 b) := by rw [h]
theorem bcell {B : Nat} {W w1 : World} (hb : Below B W w1) : (∀ b o, b < B → w1.cell? ⟨b, o, none⟩ = W.cell? ⟨b, o, none⟩) :=
  fun b o h => hb.cell (p := ⟨b, o, none⟩) h

def RowAt (w : World) (B : Nat) (A : Option Addr) (cs : List Value) : Prop :=
  cs = [] ∨ ∃ b o, A = some ⟨b, o, none⟩ ∧ b < B ∧ ∀ j u, cs[j]? = some u → w.cell? ⟨b, o + j, none⟩ = some u
theorem RowAt.below {w w' : World} {B : Nat} {A : Option Addr} {cs : List Value} (h : RowAt w B A cs) (hb : Below B w w') : RowAt w' B A cs := by
  rcases h with h | ⟨b, o, e, hlt, hc⟩
  · exact .inl h
  · exact .inr ⟨b, o, e, hlt, fun j u hu => (hb.cell (p := ⟨b, o + j, none⟩) hlt).trans (hc j u hu)⟩
theorem RowAt.more {w : World} {B B' : Nat} {A : Option Addr} {cs : List Value} (h : RowAt w B A cs) (hb : B ≤ B') : RowAt w B' A cs := by
  rcases h with h | ⟨b, o, e, hlt, hc⟩
  · exact .inl h
  · exact .inr ⟨b, o, e, by omega, hc⟩
theorem RowAt.nil {w : World} {B : Nat} {A : Option Addr} : RowAt w B A [] := .inl rfl
def i64s (l : List Int) : List Value := l.map (Value.int .i64)

/-- A game. -/
structure Gm where
  d : Int
  h : Int
  a : Int
  e : Int
  hg : Int
  ag : Int
deriving DecidableEq, Repr
def Gm.cells (g : Gm) : List Value := [.int .i64 g.d, .int .i64 g.h, .int .i64 g.a, .int .i64 g.e, .int .i64 g.hg, .int .i64 g.ag]
def gcells (gs : List Gm) : List Value := gs.flatMap Gm.cells
theorem gcells_get (gs : List Gm) : ∀ (k : Nat) (g : Gm), gs[k]? = some g → ∀ j, j < 6 → (gcells gs)[k * 6 + j]? = g.cells[j]? := by
  induction gs with
  | nil => intro k g h; simp at h
  | cons x gs ih =>
    intro k g h j hj
    unfold gcells
    rw [List.flatMap_cons]
    cases k with
    | zero =>
      simp at h; subst h
      rw [List.getElem?_append_left (by simp [Gm.cells]; omega)]; simp
    | succ k =>
      have hl : x.cells.length = 6 := rfl
      rw [List.getElem?_append_right (by omega), hl]
      have := ih k g (by simpa using h) j hj
      unfold gcells at this
      rw [← this]; congr 1; omega
/-- The games of a slice. -/
def GamesAt (w : World) (B : Nat) (A : Option Addr) (gs : List Gm) : Prop := RowAt w B A (gcells gs)
theorem GamesAt.at_ {w : World} {B : Nat} {A : Option Addr} {gs : List Gm} (h : GamesAt w B A gs) {k : Nat} {g : Gm} (hk : gs[k]? = some g) :
    ∃ b o, A = some ⟨b, o, none⟩ ∧ b < B ∧ w.cell? ⟨b, o + k * 6, none⟩ = some (.int .i64 g.d) ∧ w.cell? ⟨b, o + k * 6 + 1, none⟩ = some (.int .i64 g.h) ∧
      w.cell? ⟨b, o + k * 6 + 2, none⟩ = some (.int .i64 g.a) ∧ w.cell? ⟨b, o + k * 6 + 3, none⟩ = some (.int .i64 g.e) ∧
      w.cell? ⟨b, o + k * 6 + 4, none⟩ = some (.int .i64 g.hg) ∧ w.cell? ⟨b, o + k * 6 + 5, none⟩ = some (.int .i64 g.ag) := by
  rcases h with h | ⟨b, o, e, hlt, hc⟩
  · exfalso
    cases gs with
    | nil => simp at hk
    | cons x gs => simp [gcells, Gm.cells] at h
  · refine ⟨b, o, e, hlt, ?_, ?_, ?_, ?_, ?_, ?_⟩
    · exact hc (k * 6) _ (by have := gcells_get gs k g hk 0 (by omega); rwa [Nat.add_zero] at this)
    · exact hc (k * 6 + 1) _ (gcells_get gs k g hk 1 (by omega))
    · exact hc (k * 6 + 2) _ (gcells_get gs k g hk 2 (by omega))
    · exact hc (k * 6 + 3) _ (gcells_get gs k g hk 3 (by omega))
    · exact hc (k * 6 + 4) _ (gcells_get gs k g hk 4 (by omega))
    · exact hc (k * 6 + 5) _ (gcells_get gs k g hk 5 (by omega))
/-- The ways of a slice of slices. -/
def FarAt (w : World) (B : Nat) (A : Option Addr) (far : List (List Int)) : Prop :=
  far = [] ∨ ∃ b o, A = some ⟨b, o, none⟩ ∧ b < B ∧ ∀ i r, far[i]? = some r → ∃ Ai ci, w.cell? ⟨b, o + i, none⟩ = some (.slice Ai r.length ci) ∧ RowAt w B Ai (i64s r)
theorem FarAt.below {w w' : World} {B : Nat} {A : Option Addr} {far : List (List Int)} (h : FarAt w B A far) (hb : Below B w w') : FarAt w' B A far := by
  rcases h with h | ⟨b, o, e, hlt, hc⟩
  · exact .inl h
  · refine .inr ⟨b, o, e, hlt, fun i r hr => ?_⟩
    obtain ⟨Ai, ci, h1, h2⟩ := hc i r hr
    exact ⟨Ai, ci, (hb.cell (p := ⟨b, o + i, none⟩) hlt).trans h1, h2.below hb⟩
theorem FarAt.more {w : World} {B B' : Nat} {A : Option Addr} {far : List (List Int)} (h : FarAt w B A far) (hb : B ≤ B') : FarAt w B' A far := by
  rcases h with h | ⟨b, o, e, hlt, hc⟩
  · exact .inl h
  · refine .inr ⟨b, o, e, by omega, fun i r hr => ?_⟩
    obtain ⟨Ai, ci, h1, h2⟩ := hc i r hr
    exact ⟨Ai, ci, h1, h2.more hb⟩
theorem RowAt.of_cells {w w' : World} {B : Nat} {A : Option Addr} {cs : List Value} (h : RowAt w B A cs) (hb : ∀ b o, b < B → w'.cell? ⟨b, o, none⟩ = w.cell? ⟨b, o, none⟩) : RowAt w' B A cs := by
  rcases h with h | ⟨b, o, e, hlt, hc⟩
  · exact .inl h
  · exact .inr ⟨b, o, e, hlt, fun j u hu => (hb b (o + j) hlt).trans (hc j u hu)⟩
theorem FarAt.of_cells {w w' : World} {B : Nat} {A : Option Addr} {far : List (List Int)} (h : FarAt w B A far) (hb : ∀ b o, b < B → w'.cell? ⟨b, o, none⟩ = w.cell? ⟨b, o, none⟩) : FarAt w' B A far := by
  rcases h with h | ⟨b, o, e, hlt, hc⟩
  · exact .inl h
  · refine .inr ⟨b, o, e, hlt, fun i r hr => ?_⟩
    obtain ⟨Ai, ci, h1, h2⟩ := hc i r hr
    exact ⟨Ai, ci, (hb b (o + i) hlt).trans h1, h2.of_cells hb⟩
theorem FarAt.at_ {w : World} {B : Nat} {A : Option Addr} {far : List (List Int)} (h : FarAt w B A far) {k : Nat} {r : List Int} (hk : far[k]? = some r) :
    ∃ b o Ai ci, A = some ⟨b, o, none⟩ ∧ b < B ∧ w.cell? ⟨b, o + k, none⟩ = some (.slice Ai r.length ci) ∧ RowAt w B Ai (i64s r) := by
  rcases h with h | ⟨b, o, e, hlt, hc⟩
  · subst h; simp at hk
  · obtain ⟨Ai, ci, h1, h2⟩ := hc k r hk
    exact ⟨b, o, Ai, ci, e, hlt, h1, h2⟩
theorem RowAt.int_at {w : World} {B : Nat} {A : Option Addr} {l : List Int} (h : RowAt w B A (i64s l)) {k : Nat} {n : Int} (hk : l[k]? = some n) :
    ∃ b o, A = some ⟨b, o, none⟩ ∧ b < B ∧ w.cell? ⟨b, o + k, none⟩ = some (.int .i64 n) := by
  rcases h with h | ⟨b, o, e, hlt, hc⟩
  · unfold i64s at h; simp at h; subst h; simp at hk
  · exact ⟨b, o, e, hlt, hc k _ (by simp [i64s, hk])⟩

/-! ### The small functions. -/
def inB (n lo hi : Int) : Bool := decide (lo ≤ n) && decide (n ≤ hi)
theorem within_any (n lo hi : Int) (w : World) :
    Calls Tryd.prog 34 #[.int .i64 n, .int .i64 lo, .int .i64 hi] w fun e w' => e = .returned (.bool (inB n lo hi)) ∧ w = w' := by
  go_enter Tryd.func34, Tryd.ntmps34
  go_wp2
  all_goals (go_ret; refine ⟨?_, rfl⟩)
  all_goals (simp [inB, *]; try omega)
theorem in_any (n lo hi : Int) (w : World) :
    Calls Tryd.prog 17 #[.int .i64 n, .int .i64 lo, .int .i64 hi] w fun e w' => e = .returned (.bool (inB n lo hi)) ∧ w = w' := by
  go_enter Tryd.func17, Tryd.ntmps17
  go_wp2
  all_goals (go_ret; refine ⟨?_, rfl⟩)
  all_goals (simp [inB, *]; try omega)
def hasB (g : Gm) (t : Int) : Bool := g.h == t || g.a == t
theorem has_any (d h a e hg ag t : Int) (w : World) :
    Calls Tryd.prog 19 #[.agg #[.int .i64 d, .int .i64 h, .int .i64 a, .int .i64 e, .int .i64 hg, .int .i64 ag], .int .i64 t] w fun e' w' => e' = .returned (.bool (hasB ⟨d, h, a, e, hg, ag⟩ t)) ∧ Below w.heap.size w w' := by
  go_enter Tryd.func19, Tryd.ntmps19
  go_wp2
  all_goals go_ret
  all_goals refine ⟨?_, (Below.refl _ _).alloc (Nat.le_refl _) _⟩
  all_goals simp [hasB, *]
def gameB (g : Gm) (n : Int) : Bool := inB g.d 0 16384 && inB g.h 0 (n - 1) && inB g.a 0 (n - 1) && !(g.h == g.a) && inB g.e 0 2 && (g.e == 0 || (inB g.hg 0 99 && inB g.ag 0 99 && !(g.hg == g.ag)))
set_option maxHeartbeats 1000000 in
theorem isGame_any (d h a e hg ag n : Int) (w : World) (hn : 0 ≤ n) (hn2 : n ≤ 1000000) :
    Calls Tryd.prog 37 #[.agg #[.int .i64 d, .int .i64 h, .int .i64 a, .int .i64 e, .int .i64 hg, .int .i64 ag], .int .i64 n] w fun e' w' => e' = .returned (.bool (gameB ⟨d, h, a, e, hg, ag⟩ n)) ∧ Below w.heap.size w w' := by
  go_enter Tryd.func37, Tryd.ntmps37
  go_wp2_with (go_at_call 34; refine (within_any _ _ _ _).mono ?_; rintro e w' ⟨rfl, rfl⟩)
  all_goals go_ret
  all_goals refine ⟨?_, (Below.refl _ _).alloc (Nat.le_refl _) _⟩
  all_goals (simp [gameB, *] <;> simp_all [bne])
set_option maxHeartbeats 1000000 in
theorem game_any (d h a e hg ag n : Int) (w : World) (hn : 0 ≤ n) (hn2 : n ≤ 1000000) :
    Calls Tryd.prog 18 #[.agg #[.int .i64 d, .int .i64 h, .int .i64 a, .int .i64 e, .int .i64 hg, .int .i64 ag], .int .i64 n] w fun e' w' => e' = .returned (.bool (gameB ⟨d, h, a, e, hg, ag⟩ n)) ∧ Below w.heap.size w w' := by
  go_enter Tryd.func18, Tryd.ntmps18
  go_wp2_with (go_at_call 17; refine (in_any _ _ _ _).mono ?_; rintro e w' ⟨rfl, rfl⟩)
  all_goals go_ret
  all_goals refine ⟨?_, (Below.refl _ _).alloc (Nat.le_refl _) _⟩
  all_goals (simp [gameB, *] <;> simp_all [bne])
end Go.Proofs.YtgbmmelkagcbdaaDoor
