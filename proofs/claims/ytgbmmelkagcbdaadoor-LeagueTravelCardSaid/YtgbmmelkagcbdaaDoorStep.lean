/- LeagueTravel: what the loop of its walk does to the world. Plain lemmas. -/
import Derived.Test.YtgbmmelkagcbdaaDoorMain
import Derived.Test.YtgbmmelkagcbdaaDoorPlai
namespace Go.Proofs.YtgbmmelkagcbdaaDoor
open Go.RowKit Go Go.Shelf
def Two (w3 : World) (vs : Array Value) (Bo Be : Nat) (W : World) : Prop :=
  Bo ≠ Be ∧ w3.heap.size ≤ Bo ∧ w3.heap.size ≤ Be ∧ Below w3.heap.size w3 W ∧ W.heap[Bo]? = some (.cells vs 25 (0, 0)) ∧ W.heap[Be]? = some (.cells vs 25 (0, 0))
theorem two_a (w3 : World) (vs : Array Value) : Two w3 vs w3.heap.size (w3.heap.size + 1) ((w3.alloc (.cells vs 25)).alloc (.cells vs 25)).drew := by
  refine ⟨by omega, Nat.le_refl _, by omega, (((Below.refl _ _).alloc (Nat.le_refl _) _).alloc (by simp) _).drew, ?_, ?_⟩
  · exact (Below.heap_alloc _ _ _ (by simp)).trans (World.alloc_heap_new _ _)
  · have := World.alloc_heap_new (w3.alloc (.cells vs 25)) (.cells vs 25)
    rwa [World.size_alloc] at this
theorem two_b (w3 : World) (vs : Array Value) : Two w3 vs (w3.heap.size + 1) w3.heap.size ((w3.alloc (.cells vs 25)).alloc (.cells vs 25)).drew := by
  obtain ⟨h1, h2, h3, h4, h5, h6⟩ := two_a w3 vs
  exact ⟨h1.symm, h3, h2, h4, h6, h5⟩
theorem info33 : (Tryd.prog.info? 33).map (fun i => (i.zero, i.size, i.bytes)) = some (some (.agg #[.int .i64 0, .int .i64 0, .int .i64 0, .int .i64 0, .int .i64 0, .int .i64 0]), 6, 48) := by kernel_rfl
theorem gcells_len (gs : List Gm) : (gcells gs).length = gs.length * 6 := by
  unfold gcells
  induction gs with
  | nil => rfl
  | cons g gs ih => rw [List.flatMap_cons, List.length_append, ih, List.length_cons]; simp only [Gm.cells, List.length_cons, List.length_nil]; omega
/-- The world in the loop: the two copies, and the own games so far. -/
def LoopSt (A1 A2 : Option Addr) (c1 c2 : Nat) (l : Lg) (t : Int) (w w3 : World) (Bo Be k : Nat) (v : Value) (wr : World) : Prop :=
  St A1 A2 c1 c2 l w wr ∧ w3.heap.size ≤ wr.heap.size ∧ wr.heap[Bo]? = some (.cells #[.slice A1 l.far.length c1, v] 25 (0, 0)) ∧ wr.heap[Be]? = some (.cells #[.slice A1 l.far.length c1, .slice none 0 0] 25 (0, 0)) ∧
    wr.ownsRow w3.heap.size 33 6 v (owns (l.gs.take k) t).length (gcells (owns (l.gs.take k) t)) ∧ (owns (l.gs.take k) t = [] → v = .slice none 0 0)
theorem own_ne {w : World} {base n B : Nat} {v : Value} {xs : List Value} {vs : Array Value} (h : w.ownsRow base 33 6 v n xs) (hB : w.heap[B]? = some (.cells vs 25 (0, 0))) : some B ≠ v.ownBlock := by
  obtain ⟨_, ⟨rfl, _⟩ | ⟨g, cap, cur, rfl, _, hh, _⟩⟩ := h
  · intro e; cases e
  · intro e
    simp only [Value.ownBlock, Option.some.injEq] at e
    subst e
    rw [hB] at hh
    simp at hh
theorem heap_setCell_at {w : World} {B i : Nat} {vs : Array Value} {t : TypeId} (h : w.heap[B]? = some (.cells vs t (0, 0))) (u : Value) : (w.setCell ⟨B, i, none⟩ u).heap[B]? = some (.cells (vs.setIfInBounds i u) t (0, 0)) := by
  simp [World.setCell, Array.getElem?_modify, h]
theorem own_setCell {w : World} {base n B i : Nat} {v u : Value} {xs : List Value} {vs : Array Value} (h : w.ownsRow base 33 6 v n xs) (hB : w.heap[B]? = some (.cells vs 25 (0, 0))) : (w.setCell ⟨B, i, none⟩ u).ownsRow base 33 6 v n xs := by
  obtain ⟨h1, h2⟩ := h
  refine ⟨h1, ?_⟩
  rcases h2 with h2 | ⟨g, cap, cur, hv, hg, hh, r⟩
  · exact .inl h2
  · refine .inr ⟨g, cap, cur, hv, hg, ?_, r⟩
    rw [Below.heap_setCell _ _ _ _ (by rintro rfl; rw [hB] at hh; simp at hh)]
    exact hh
theorem loop_step {A1 A2 : Option Addr} {c1 c2 : Nat} {l : Lg} {t : Int} {w w3 wr w' : World} {Bo Be k nq n' : Nat} {v v' : Value} {x1 x2 : Obj} {g : Gm} (hst : LoopSt A1 A2 c1 c2 l t w w3 Bo Be k v wr) (hw : w.heap.size < w3.heap.size) (hbo : w3.heap.size ≤ Bo) (hne : Bo ≠ Be)
    (hn : n' = (owns (l.gs.take k) t).length + 1) (hown : w'.ownsRow w3.heap.size 33 6 v' n' (gcells (owns (l.gs.take k) t) ++ g.cells)) (hgrow : (((wr.alloc x1).alloc x2).drewN nq).grownBy w' v.ownBlock) (hsn : owns (l.gs.take (k + 1)) t = owns (l.gs.take k) t ++ [g]) :
    (w'.cell? ⟨Bo, 1, none⟩ = some v ∧ w'.frozen? ⟨Bo, 1, none⟩ = false) ∧ LoopSt A1 A2 c1 c2 l t w w3 Bo Be (k + 1) v' (w'.setCell ⟨Bo, 1, none⟩ v') := by
  obtain ⟨st, hsz, ho, he, hv, hnil⟩ := hst
  have lo : Bo < wr.heap.size := (Array.getElem?_eq_some_iff.1 ho).1
  have le : Be < wr.heap.size := (Array.getElem?_eq_some_iff.1 he).1
  have hkeep : ∀ (B : Nat) (vs : Array Value), wr.heap[B]? = some (Obj.cells vs 25 (0, 0)) → w'.heap[B]? = some (Obj.cells vs 25 (0, 0)) := fun B vs h => by
    have lB : B < wr.heap.size := (Array.getElem?_eq_some_iff.1 h).1
    have e1 : (((wr.alloc x1).alloc x2).drewN nq).heap[B]? = wr.heap[B]? := ((((Below.refl _ _).alloc (Nat.le_refl _) x1).alloc (by simp) x2 : Below wr.heap.size wr _)).block B lB
    rw [hgrow.block B (by show B < ((wr.alloc x1).alloc x2).heap.size; simp; omega) (own_ne hv h), e1, h]
  have ho' := hkeep _ _ ho
  have he' := hkeep _ _ he
  have hb : Below w3.heap.size wr w' := by
    have h1 : Below w3.heap.size wr (((wr.alloc x1).alloc x2).drewN nq) := below_drewN ((((Below.refl _ _).alloc hsz x1).alloc (by simp; omega) x2)) nq
    refine h1.grown hgrow (by show _ ≤ ((wr.alloc x1).alloc x2).heap.size; simp; omega) (fun q hq => ?_)
    obtain ⟨_, ⟨rfl, _⟩ | ⟨g, cap, cur, rfl, hg, _⟩⟩ := hv
    · cases hq
    · simp only [Value.ownBlock, Option.some.injEq] at hq; omega
  have hb2 : Below w3.heap.size wr (w'.setCell ⟨Bo, 1, none⟩ v') := hb.setCell hbo _
  refine ⟨⟨by simp [World.cell?, ho'], by simp [World.frozen?, ho']⟩, st.keepN hb2 hw, Nat.le_trans hsz hb2.size, heap_setCell_at ho' v', (Below.heap_setCell _ _ _ _ (fun e => hne e.symm)).trans he', ?_, fun h => by rw [hsn] at h; simp at h⟩
  have := own_setCell (i := 1) (u := v') hown ho'
  rw [hsn, List.length_append, show gcells (owns (l.gs.take k) t ++ [g]) = gcells (owns (l.gs.take k) t) ++ g.cells by simp [gcells]]
  rw [hn] at this
  exact this
theorem loop_start {A1 A2 : Option Addr} {c1 c2 : Nat} {l : Lg} {t : Int} {w w3 wc : World} {Bo Be : Nat} (st : St A1 A2 c1 c2 l w wc) (hw : w.heap.size < w3.heap.size) (hbo : w3.heap.size ≤ Bo) (hbe : w3.heap.size ≤ Be) (hne : Bo ≠ Be) (hsz : w3.heap.size ≤ wc.heap.size)
    (ho : wc.heap[Bo]? = some (.cells #[.slice A1 l.far.length c1, .slice A2 l.gs.length c2] 25 (0, 0))) (he : wc.heap[Be]? = some (.cells #[.slice A1 l.far.length c1, .slice A2 l.gs.length c2] 25 (0, 0))) :
    LoopSt A1 A2 c1 c2 l t w w3 Bo Be 0 (.slice none 0 0) ((wc.setCell ⟨Bo, 1, none⟩ (.slice none 0 0)).setCell ⟨Be, 1, none⟩ (.slice none 0 0)) := by
  have hb : Below w3.heap.size wc ((wc.setCell ⟨Bo, 1, none⟩ (.slice none 0 0)).setCell ⟨Be, 1, none⟩ (.slice none 0 0)) := ((Below.refl _ _).setCell hbo _).setCell hbe _
  refine ⟨st.keepN hb hw, Nat.le_trans hsz hb.size, ?_, ?_, ?_, fun _ => rfl⟩
  · rw [Below.heap_setCell _ ⟨Be, 1, none⟩ (.slice none 0 0) _ hne]; exact heap_setCell_at ho _
  · exact heap_setCell_at (by rw [Below.heap_setCell _ ⟨Bo, 1, none⟩ (.slice none 0 0) _ hne.symm]; exact he) _
  · exact ⟨by simp [owns, gcells], .inl ⟨rfl, by simp [owns]⟩⟩
theorem loop_skip {A1 A2 : Option Addr} {c1 c2 : Nat} {l : Lg} {t : Int} {w w3 wr : World} {Bo Be k : Nat} {v : Value} (hst : LoopSt A1 A2 c1 c2 l t w w3 Bo Be k v wr) (hw : w.heap.size < w3.heap.size) (x : Obj) (hsn : owns (l.gs.take (k + 1)) t = owns (l.gs.take k) t) :
    LoopSt A1 A2 c1 c2 l t w w3 Bo Be (k + 1) v (wr.alloc x) := by
  obtain ⟨st, hsz, ho, he, hv, hnil⟩ := hst
  have hb : Below wr.heap.size wr (wr.alloc x) := (Below.refl _ _).alloc (Nat.le_refl _) _
  refine ⟨st.keepN hb (by omega), Nat.le_trans hsz hb.size, ?_, ?_, ?_, fun h => hnil (by rw [← hsn]; exact h)⟩
  · exact (hb.block Bo (Array.getElem?_eq_some_iff.1 ho).1).trans ho
  · exact (hb.block Be (Array.getElem?_eq_some_iff.1 he).1).trans he
  · rw [hsn]; exact hv.alloc x
theorem own_games {w : World} {base n c : Nat} {A : Option Addr} {G : List Gm} (h : w.ownsRow base 33 6 (.slice A n c) n (gcells G)) : GamesAt w w.heap.size A G := by
  obtain ⟨_, ⟨e, hn⟩ | ⟨g, cap, cur, hv, _, hh, hc, _, hs, ht⟩⟩ := h
  · have : gcells G = [] := by
      subst hn
      rename_i hl
      exact List.length_eq_zero_iff.1 (by omega)
    exact .inl this
  · obtain ⟨rfl, rfl⟩ : A = some ⟨g, 0, none⟩ ∧ c = cap := by injection hv with h1 _ h2; exact ⟨h1, h2⟩
    refine .inr ⟨g, 0, rfl, (Array.getElem?_eq_some_iff.1 hh).1, fun j u hu => ?_⟩
    rw [← ht, List.getElem?_take] at hu
    split at hu
    · rw [Nat.zero_add]
      simp only [World.cell?, hh]
      simpa using hu
    · cases hu
/-- What stands behind the statement that lays the games twice. -/
structure Aft (A1 A2 : Option Addr) (c1 c2 : Nat) (l : Lg) (w : World) (Bo Be : Nat) (G : List Gm) (Ao Ae : Option Addr) (co ce : Nat) (W : World) : Prop where
  st : St A1 A2 c1 c2 l w W
  lo : Bo < W.heap.size
  le : Be < W.heap.size
  o0 : W.cell? ⟨Bo, 0, none⟩ = some (.slice A1 l.far.length c1)
  o1 : W.cell? ⟨Bo, 1, none⟩ = some (.slice Ao G.length co)
  e0 : W.cell? ⟨Be, 0, none⟩ = some (.slice A1 l.far.length c1)
  e1 : W.cell? ⟨Be, 1, none⟩ = some (.slice Ae (G.length + G.length) ce)
  go : GamesAt W W.heap.size Ao G
  ge : GamesAt W W.heap.size Ae (G ++ G)
theorem Aft.keep {A1 A2 : Option Addr} {c1 c2 : Nat} {l : Lg} {w : World} {Bo Be : Nat} {G : List Gm} {Ao Ae : Option Addr} {co ce : Nat} {W W' : World} (h : Aft A1 A2 c1 c2 l w Bo Be G Ao Ae co ce W) (hb : Below W.heap.size W W') : Aft A1 A2 c1 c2 l w Bo Be G Ao Ae co ce W' :=
  ⟨h.st.keep hb, Nat.lt_of_lt_of_le h.lo hb.size, Nat.lt_of_lt_of_le h.le hb.size, by rw [bcell hb _ _ h.lo]; exact h.o0, by rw [bcell hb _ _ h.lo]; exact h.o1, by rw [bcell hb _ _ h.le]; exact h.e0, by rw [bcell hb _ _ h.le]; exact h.e1,
   (RowAt.below h.go hb).more hb.size, (RowAt.below h.ge hb).more hb.size⟩
theorem aft_nil {A1 A2 : Option Addr} {c1 c2 : Nat} {l : Lg} {t : Int} {w w3 wr : World} {Bo Be k : Nat} (hst : LoopSt A1 A2 c1 c2 l t w w3 Bo Be k (.slice none 0 0) wr) (hw : w.heap.size < w3.heap.size) (hbe : w3.heap.size ≤ Be) (hne : Bo ≠ Be) :
    Aft A1 A2 c1 c2 l w Bo Be [] none (some ⟨wr.heap.size, 0, none⟩) 0 0 ((wr.setCell ⟨Be, 1, none⟩ (.slice (some ⟨wr.heap.size, 0, none⟩) 0 0)).alloc (.cells #[] 33)).drew := by
  obtain ⟨st, hsz, ho, he, hv, hnil⟩ := hst
  have lo : Bo < wr.heap.size := (Array.getElem?_eq_some_iff.1 ho).1
  have le : Be < wr.heap.size := (Array.getElem?_eq_some_iff.1 he).1
  have hb : Below w3.heap.size wr ((wr.setCell ⟨Be, 1, none⟩ (.slice (some ⟨wr.heap.size, 0, none⟩) 0 0)).alloc (.cells #[] 33)).drew := ((((Below.refl _ _).setCell hbe _).alloc (by simpa [World.setCell] using hsz) _)).drew
  have hs : ((wr.setCell ⟨Be, 1, none⟩ (.slice (some ⟨wr.heap.size, 0, none⟩) 0 0)).alloc (.cells #[] 33)).drew.heap.size = wr.heap.size + 1 := by simp [World.drew, World.setCell, World.alloc]
  have e1 : ((wr.setCell ⟨Be, 1, none⟩ (.slice (some ⟨wr.heap.size, 0, none⟩) 0 0)).alloc (.cells #[] 33)).drew.heap[Be]? = some (.cells #[.slice A1 l.far.length c1, .slice (some ⟨wr.heap.size, 0, none⟩) 0 0] 25 (0, 0)) := by
    have := heap_setCell_at (i := 1) he (.slice (some ⟨wr.heap.size, 0, none⟩) 0 0)
    exact (Below.heap_alloc _ _ _ (by simpa [World.setCell] using le)).trans this
  have e2 : ((wr.setCell ⟨Be, 1, none⟩ (.slice (some ⟨wr.heap.size, 0, none⟩) 0 0)).alloc (.cells #[] 33)).drew.heap[Bo]? = some (.cells #[.slice A1 l.far.length c1, .slice none 0 0] 25 (0, 0)) :=
    (Below.heap_alloc _ _ _ (by simpa [World.setCell] using lo)).trans ((Below.heap_setCell _ ⟨Be, 1, none⟩ _ _ hne).trans ho)
  exact ⟨st.keepN hb hw, by omega, by omega, by simp [World.cell?, e2], by simp [World.cell?, e2], by simp [World.cell?, e1], by simp [World.cell?, e1], .inl rfl, .inl rfl⟩
theorem gcells_append (A B : List Gm) : gcells (A ++ B) = gcells A ++ gcells B := by simp [gcells]
theorem aft_own {A1 A2 : Option Addr} {c1 c2 : Nat} {l : Lg} {t : Int} {w w3 wr w2 : World} {Bo Be k co ce : Nat} {G : List Gm} {Ao Ae : Option Addr} (hst : LoopSt A1 A2 c1 c2 l t w w3 Bo Be k (.slice Ao G.length co) wr) (hG : owns (l.gs.take k) t = G)
    (hw : w.heap.size < w3.heap.size) (hbe : w3.heap.size ≤ Be) (hne : Bo ≠ Be) (hb : Below wr.heap.size wr w2) (hown : w2.ownsRow wr.heap.size 33 6 (.slice Ae (G.length + G.length) ce) (G.length + G.length) (gcells G ++ gcells G)) :
    (w2.cell? ⟨Be, 1, none⟩ = some (.slice none 0 0) ∧ w2.frozen? ⟨Be, 1, none⟩ = false) ∧
    Aft A1 A2 c1 c2 l w Bo Be G Ao Ae co ce (w2.setCell ⟨Be, 1, none⟩ (.slice Ae (G.length + G.length) ce)) := by
  obtain ⟨st, hsz, ho, he, hv, hnil⟩ := hst
  rw [hG] at hv
  have lo : Bo < wr.heap.size := (Array.getElem?_eq_some_iff.1 ho).1
  have le : Be < wr.heap.size := (Array.getElem?_eq_some_iff.1 he).1
  have ho2 := (hb.block Bo lo).trans ho
  have he2 := (hb.block Be le).trans he
  have hb3 : Below w3.heap.size wr (w2.setCell ⟨Be, 1, none⟩ (.slice Ae (G.length + G.length) ce)) := (hb.mono hsz).setCell hbe _
  have hs : (w2.setCell ⟨Be, 1, none⟩ (.slice Ae (G.length + G.length) ce)).heap.size = w2.heap.size := by simp [World.setCell]
  have hsz2 := hb.size
  have e1 := heap_setCell_at (i := 1) he2 (.slice Ae (G.length + G.length) ce)
  have e2 : (w2.setCell ⟨Be, 1, none⟩ (.slice Ae (G.length + G.length) ce)).heap[Bo]? = some (.cells #[.slice A1 l.far.length c1, .slice Ao G.length co] 25 (0, 0)) := (Below.heap_setCell _ ⟨Be, 1, none⟩ _ _ hne).trans ho2
  have v2 : w2.ownsRow w3.heap.size 33 6 (.slice Ao G.length co) G.length (gcells G) := by
    obtain ⟨h1, h2⟩ := hv
    refine ⟨h1, ?_⟩
    rcases h2 with h2 | ⟨g, cap, cur, hv, hg, hh, r⟩
    · exact .inl h2
    · exact .inr ⟨g, cap, cur, hv, hg, (hb.block g (Array.getElem?_eq_some_iff.1 hh).1).trans hh, r⟩
  refine ⟨⟨by simp [World.cell?, he2], by simp [World.frozen?, he2]⟩, st.keepN hb3 hw, by omega, by omega, by simp [World.cell?, e2], by simp [World.cell?, e2], by simp [World.cell?, e1], by simp [World.cell?, e1], own_games (own_setCell v2 he2), ?_⟩
  have := own_setCell (i := 1) (u := .slice Ae (G.length + G.length) ce) hown he2
  rw [← gcells_append] at this
  exact own_games this
theorem own_form {w : World} {base : Nat} {v : Value} {G : List Gm} (h : w.ownsRow base 33 6 v G.length (gcells G)) (hG : G ≠ []) :
    ∃ g cap, v = .slice (some ⟨g, 0, none⟩) G.length cap ∧ g < w.heap.size ∧ ∀ j u, (gcells G)[j]? = some u → w.cell? (Addr.add ⟨g, 0, none⟩ j) = some u := by
  obtain ⟨h0, ⟨e, hn⟩ | ⟨g, cap, cur, hv, _, hh, hc, _, hs, ht⟩⟩ := h
  · exact absurd (List.length_eq_zero_iff.1 hn) hG
  · refine ⟨g, cap, hv, (Array.getElem?_eq_some_iff.1 hh).1, fun j u hu => ?_⟩
    have ea : Addr.add ⟨g, 0, none⟩ j = ⟨g, j, none⟩ := by
      unfold Addr.add
      by_cases h : j = 0
      · simp [h]
      · simp [h]
    rw [ea]
    rw [← ht, List.getElem?_take] at hu
    split at hu
    · simp only [World.cell?, hh]
      simpa using hu
    · cases hu
theorem own_empty (w : World) : (w.alloc (.cells #[] 33)).drew.ownsRow w.heap.size 33 6 (.slice (some ⟨w.heap.size, 0, none⟩) 0 0) 0 [] :=
  ⟨rfl, .inr ⟨w.heap.size, 0, #[], rfl, Nat.le_refl _, World.alloc_heap_new w _, Nat.le_refl _, Nat.zero_le _, rfl, rfl⟩⟩
theorem news_behind {w w' : World} {g B : Nat} {cs : List Value} (h : ∀ j u, cs[j]? = some u → w.cell? (Addr.add ⟨g, 0, none⟩ j) = some u) (_hB : B ≤ w.heap.size) (hb : Below w.heap.size w w') : ∀ j u, cs[j]? = some u → w'.cell? (Addr.add ⟨g, 0, none⟩ j) = some u := fun j u hu => by
  have h1 := h j u hu
  have hlt : (Addr.add ⟨g, 0, none⟩ j).block < w.heap.size := World.block_lt_of_cell? w _ h1
  rw [hb.cell hlt]
  exact h1
theorem gcells_one (G : List Gm) : ∀ u ∈ gcells G, u.oneCell' = true := fun u hu => by
  unfold gcells at hu
  obtain ⟨g, _, hg⟩ := List.mem_flatMap.1 hu
  simp only [Gm.cells, List.mem_cons, List.mem_nil_iff, or_false] at hg
  rcases hg with rfl | rfl | rfl | rfl | rfl | rfl <;> rfl
theorem below_grown {B : Nat} {a w w' : World} {g n c : Nat} (h : Below B a w) (hg : w.grownBy w' (Value.slice (some ⟨g, 0, none⟩) n c).ownBlock) (hB : B ≤ w.heap.size := by simp) (hgB : B ≤ g := by omega) : Below B a w' :=
  h.grown hg hB (fun k e => by simp only [Value.ownBlock, Option.some.injEq] at e; omega)
end Go.Proofs.YtgbmmelkagcbdaaDoor
