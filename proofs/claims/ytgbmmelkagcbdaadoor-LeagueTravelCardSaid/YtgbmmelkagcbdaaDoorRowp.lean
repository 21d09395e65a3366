/- LeagueTravel is proved: for every league and team the law returns true, and the league reads afterwards as it read before. No condition. -/
import Derived.Test.YtgbmmelkagcbdaaDoorStnd
import Derived.Test.YtgbmmelkagcbdaaDoorMaio
import Derived.Test.YtgbmmelkagcbdaaDoorTie
import Derived.Test.YtgbmmelkagcbdaaDoorCards
import Derived.ProofKit
import Derived.LaidMore
import Derived.OpenShut
import Derived.Stop.Joined
import Derived.Deep.Matrix
import Derived.Lib.SmallJoins
import Derived.Deep.Fields
import Derived.SevenTiedAt
namespace Go.Proofs.YtgbmmelkagcbdaaDoor
open Go.ChangeShapes Go.WideShapes Go.ChangeAt Go.WideMaps Go.WideElems Go.RowKit Go.Deep Go.Joins
theorem own10 : ownKnob Tryd.prog.godebug = none := by kernel_rfl
theorem gPoints : Tryd.prog.globalNamed "icehall/league.points" = some 0 := by kernel_rfl
theorem tPoints : (Tryd.prog.globals[0]?).map (·.type) = some 69 := by kernel_rfl
theorem cells69 : Tryd.prog.cellsOf 69 = 8 := by kernel_rfl
theorem cells68 : Tryd.prog.cellsOf 68 = 2 := by kernel_rfl
theorem two_of {α : Type} {l : List α} (h : l.length = 2) : ∃ a b, l = [a, b] := by
  match l, h with
  | [a, b], _ => exact ⟨a, b, rfl⟩
theorem four_of {α : Type} {l : List α} (h : l.length = 4) : ∃ a b c d, l = [a, b, c, d] := by
  match l, h with
  | [a, b, c, d], _ => exact ⟨a, b, c, d, rfl⟩
theorem eight_of {α : Type} {l : List α} (h : l.length = 8) : ∃ a b c d e f g k, l = [a, b, c, d, e, f, g, k] := by
  match l, h with
  | [a, b, c, d, e, f, g, k], _ => exact ⟨a, b, c, d, e, f, g, k, rfl⟩
section
variable {H : Type} {enc : TypeId × Value → H} {W : World} {base : Nat} {sp : Nat → Bool} {held : Bool}
theorem one_int {a : Value} {f : Nat} {x : DataW H × List MemPlace} {y : Int} (h : DataW.trod enc Tryd.prog W base sp held f 3 [a] = some x) (hx : x.1 = .lit (.int .i64 y)) : a = .int .i64 y := by
  obtain ⟨k, e1, e2, _⟩ := DataW.trod_int Tryd.underlying3 h
  rw [e2] at hx
  simp only [DataW.lit.injEq, Lit.int.injEq, true_and] at hx
  subst hx
  simpa using e1
theorem pair_of {a b : Value} {f : Nat} {x : DataW H × List MemPlace} {y z : Int} (h : DataW.trod enc Tryd.prog W base sp held f 68 [a, b] = some x) (hx : x.1 = .agg [.lit (.int .i64 y), .lit (.int .i64 z)]) : a = .int .i64 y ∧ b = .int .i64 z := by
  obtain ⟨xs, m, rfl, hx1, _, hn, hel⟩ := DataW.trod_array Tryd.underlying68 h
  obtain ⟨x0, x1, rfl⟩ := two_of hn
  subst hx1
  simp only [List.map_cons, List.map_nil, DataW.agg.injEq, List.cons.injEq, and_true] at hx
  have h0 := hel 0 (by omega)
  have h1 := hel 1 (by omega)
  simp only [cells3'] at h0 h1
  exact ⟨one_int h0 hx.1, one_int h1 hx.2⟩
end
theorem pts_of_laid {W : World} (h : laidMetH Tryd.prog [("icehall/league.points", Rows.laid_icehall_league_points)] W) : Pts W := by
  rw [MakeChecks.laidMetH_plain _ _ _ (by kernel_rfl)] at h
  obtain ⟨ps, ⟨g0, t0, cs, f0, p0, q0, hg0, ht0, hv0, hd0, _, _⟩, _, _⟩ := h
  obtain rfl := Option.some.inj (gPoints.symm.trans hg0)
  obtain rfl := Option.some.inj (tPoints.symm.trans ht0)
  obtain ⟨xs, m, rfl, hx, hlen, hn, hel⟩ := DataW.trod_array Tryd.underlying69 hd0
  rw [cells69] at hlen
  obtain ⟨x0, x1, x2, x3, rfl⟩ := four_of hn
  obtain ⟨l⟩ := cs
  obtain ⟨c0, c1, c2, c3, c4, c5, c6, c7, rfl⟩ := eight_of hlen
  simp only [Rows.laid_icehall_league_points, List.map_cons, List.map_nil, Prod.mk.injEq, DataW.agg.injEq, List.cons.injEq, and_true] at hx
  obtain ⟨⟨e0, e1, e2, e3⟩, _⟩ := hx
  have h0 := hel 0 (by omega)
  have h1 := hel 1 (by omega)
  have h2 := hel 2 (by omega)
  have h3 := hel 3 (by omega)
  simp only [cells68] at h0 h1 h2 h3
  obtain ⟨rfl, rfl⟩ := pair_of h0 e0.symm
  obtain ⟨rfl, rfl⟩ := pair_of h1 e1.symm
  obtain ⟨rfl, rfl⟩ := pair_of h2 e2.symm
  obtain ⟨rfl, rfl⟩ := pair_of h3 e3.symm
  have hc := fun i => World.var?_cell hg0 hv0 i
  refine ⟨World.block_lt_of_cell? W ⟨0, 0, none⟩ (hc 0), fun i v hv => ?_⟩
  rw [hc i]
  have hi : i < 8 := (List.getElem?_eq_some_iff.1 hv).1
  have : i = 0 ∨ i = 1 ∨ i = 2 ∨ i = 3 ∨ i = 4 ∨ i = 5 ∨ i = 6 ∨ i = 7 := by omega
  rcases this with rfl | rfl | rfl | rfl | rfl | rfl | rfl | rfl <;> (simp at hv; subst hv; rfl)
section
variable {H : Type} {enc : TypeId × Value → H} {P : Program} {w : World} {base : Nat} {spare : Nat → Bool} {held : Bool}
theorem open_slice_fields {t e : TypeId} {fs : Array Field} {fuel : Nat} {cs : List Value} {x : DataW H × List MemPlace} (ht : P.underlying t = some (.slice e)) (he : P.underlying e = some (.struct fs))
    (hone : oneCellFields P fs = true) (hC : P.cellsOf e = fs.size) (h : DataW.trod enc P w base spare held fuel t cs = some x) :
    (cs = [.slice none 0 0] ∧ x = (.nil, [])) ∨
    ∃ (a : Addr) (len cap m : Nat) (D : Nat → DataW H) (Pl : Nat → List MemPlace), cs = [.slice (some a) len cap] ∧ base ≤ a.block ∧ len ≤ cap ∧ cap ≤ maxLen ∧ m = (if spare a.block then cap else len) ∧
      x = (.slice ((List.range len).map D) ((List.range (m - len)).map fun j => D (len + j)), MemPlace.row a (m * fs.size) ++ (List.range m).flatMap Pl) ∧
      ∀ i, i < m → ∃ (ys : List (DataW H × List MemPlace)) (n : Nat), D i = .agg (ys.map (·.1)) ∧ Pl i = ys.flatMap (·.2) ∧ ys.length = fs.size ∧
        ∀ (j : Nat) (f : Field), fs[j]? = some f → ∃ (v : Value) (y : DataW H × List MemPlace), w.cell? (a.add (i * fs.size + j)) = some v ∧ ys[j]? = some y ∧ DataW.trod enc P w base spare held n f.type [v] = some y := by
  rcases open_slice ht h with h0 | ⟨a, len, cap, m, n, D, Pl, hcs, hb, hl, hm, hmm, hx, hi⟩
  · exact .inl h0
  · refine .inr ⟨a, len, cap, m, D, Pl, hcs, hb, hl, hm, hmm, by rw [hC] at hx; exact hx, fun i him => ?_⟩
    obtain ⟨cs', hc, ht'⟩ := hi i him
    rw [hC] at hc
    obtain ⟨ys, n', hn', hy, hlen, hyl, hf⟩ := DataW.trod_struct he ht'
    obtain ⟨_, hcl, hat⟩ := World.cells?_some hc
    simp only [Prod.mk.injEq] at hy
    refine ⟨ys, n', hy.1, hy.2, hyl, fun j f hj => ?_⟩
    obtain ⟨ho, hk⟩ := hone_of hone j f hj
    have hjl : j < fs.size := (Array.getElem?_eq_some_iff.1 hj).1
    have hcell := hat j hjl
    have hv : cs'[j]? = some (cs'[j]'(by omega)) := List.getElem?_eq_getElem (by omega)
    have h1 := hf j f hj
    rw [ho, hk] at h1
    have hone' : (cs'.drop j).take 1 = [cs'[j]'(by omega)] := by
      rw [List.drop_eq_getElem_cons (by omega)]
      rfl
    rw [hone'] at h1
    have hys : ys[j]? = some (ys[j]'(by omega)) := List.getElem?_eq_getElem (by omega)
    refine ⟨_, _, ?_, hys, h1.trans hys⟩
    rw [← Go.Deep.add_add, hcell, hv]
end
section
variable {H : Type} {enc : TypeId × Value → H} {W : World}
theorem cells34 : Tryd.prog.cellsOf 34 = 1 := by kernel_rfl
theorem cells33 : Tryd.prog.cellsOf 33 = 6 := by kernel_rfl
theorem i64s_at {l : List Int} {j : Nat} {u : Value} (h : (i64s l)[j]? = some u) : ∃ n, l[j]? = some n ∧ u = .int .i64 n := by
  unfold i64s at h
  rw [List.getElem?_map, Option.map_eq_some_iff] at h
  obtain ⟨n, h1, rfl⟩ := h
  exact ⟨n, h1, rfl⟩
theorem row_of {A : Option Addr} {L C : Nat} {Z : List Int} (e1 : L ≤ C) (e2 : Z.length = C) (e3 : A = none → C = 0) (e4 : ∀ a', A = some a' → 0 ≤ a'.block ∧ ∀ c, c < C → W.cell? (a'.add c) = some (.int .i64 (Z.getD c 0))) :
    RowAt W W.heap.size A (i64s (Z.take L)) := by
  by_cases hL : L = 0
  · subst hL
    exact .inl (by simp [i64s])
  · cases hA : A with
    | none => have := e3 hA; omega
    | some a' =>
      obtain ⟨_, hc⟩ := e4 a' hA
      obtain ⟨b, o, sp⟩ := a'
      have hsp : sp = none := by simpa [Addr.add] using World.cell?_spot (hc 0 (by omega))
      subst hsp
      refine .inr ⟨b, o, rfl, by have := World.block_lt_of_cell? W _ (hc 0 (by omega)); simpa [Addr.add] using this, fun j u hj => ?_⟩
      obtain ⟨n, hn, rfl⟩ := i64s_at hj
      have hjL : j < L := by
        have := (List.getElem?_eq_some_iff.1 hn).1
        rw [List.length_take] at this
        omega
      rw [← Go.WideShapes.add_plain, hc j (by omega)]
      rw [List.getElem?_take, if_pos hjL] at hn
      simp [List.getD_eq_getElem?_getD, hn]
theorem far_of {fuel : Nat} {v : Value} {x : DataW H × List MemPlace} (h : DataW.trod enc Tryd.prog W 0 (fun _ => true) true fuel 22 [v] = some x) : ∃ A far c, v = .slice A (List.length far) c ∧ FarAt W W.heap.size A far := by
  rcases open_int_rows Tryd.underlying22 Tryd.underlying34 Tryd.underlying3 cells34 cells3' h with ⟨hcs, _⟩ | ⟨a, len, cap, A, L, C, Z, hcs, _, hl, hm, hx, hr⟩
  · obtain rfl : v = .slice none 0 0 := by simpa using hcs
    exact ⟨none, [], 0, rfl, .inl rfl⟩
  · obtain rfl : v = .slice (some a) len cap := by simpa using hcs
    refine ⟨some a, (List.range len).map fun r => (Z r).take (L r), cap, by simp, ?_⟩
    by_cases h0 : len = 0
    · subst h0
      exact .inl (by simp)
    · obtain ⟨b, o, sp⟩ := a
      have hsp : sp = none := by simpa [Addr.add] using World.cell?_spot (hr 0 (by omega)).1
      subst hsp
      refine .inr ⟨b, o, rfl, by have := World.block_lt_of_cell? W _ (hr 0 (by omega)).1; simpa [Addr.add] using this, fun i r hir => ?_⟩
      have hi : i < len := by
        have := (List.getElem?_eq_some_iff.1 hir).1
        simpa using this
      obtain ⟨e1, e2, e3, e4, e5, e6, e7⟩ := hr i (by omega)
      obtain rfl : (Z i).take (L i) = r := by simpa [hi] using hir
      refine ⟨A i, C i, ?_, row_of e2 e4 e6 e7⟩
      rw [← Go.WideShapes.add_plain, e1]
      have : ((Z i).take (L i)).length = L i := by rw [List.length_take]; omega
      rw [this]
instance : Inhabited Gm := ⟨⟨0, 0, 0, 0, 0, 0⟩⟩
theorem games_of {fuel : Nat} {v : Value} {x : DataW H × List MemPlace} (h : DataW.trod enc Tryd.prog W 0 (fun _ => true) true fuel 23 [v] = some x) : ∃ A gs c, v = .slice A (List.length gs) c ∧ GamesAt W W.heap.size A gs := by
  rcases open_slice_fields Tryd.underlying23 Tryd.underlying33 (by kernel_rfl) cells33 h with ⟨hcs, _⟩ | ⟨a, len, cap, m, D, Pl, hcs, _, hl, hm, hmm, hx, hi⟩
  · obtain rfl : v = .slice none 0 0 := by simpa using hcs
    exact ⟨none, [], 0, rfl, .inl rfl⟩
  · obtain rfl : v = .slice (some a) len cap := by simpa using hcs
    simp only [if_true] at hmm
    subst hmm
    have each : ∀ i, i < len → ∃ g : Gm, ∀ j, j < 6 → W.cell? (a.add (i * 6 + j)) = g.cells[j]? := fun i hil => by
      obtain ⟨ys, n, _, _, _, hf⟩ := hi i (by omega)
      obtain ⟨v0, y0, c0, _, t0⟩ := hf 0 _ rfl
      obtain ⟨k0, z0, _⟩ := DataW.trod_int Tryd.underlying3 t0
      obtain rfl : v0 = .int .i64 k0 := by simpa using z0
      obtain ⟨v1, y1, c1, _, t1⟩ := hf 1 _ rfl
      obtain ⟨k1, z1, _⟩ := DataW.trod_int Tryd.underlying3 t1
      obtain rfl : v1 = .int .i64 k1 := by simpa using z1
      obtain ⟨v2, y2, c2, _, t2⟩ := hf 2 _ rfl
      obtain ⟨k2, z2, _⟩ := DataW.trod_int Tryd.underlying3 t2
      obtain rfl : v2 = .int .i64 k2 := by simpa using z2
      obtain ⟨v3, y3, c3, _, t3⟩ := hf 3 _ rfl
      obtain ⟨k3, z3, _⟩ := DataW.trod_int Tryd.underlying3 t3
      obtain rfl : v3 = .int .i64 k3 := by simpa using z3
      obtain ⟨v4, y4, c4, _, t4⟩ := hf 4 _ rfl
      obtain ⟨k4, z4, _⟩ := DataW.trod_int Tryd.underlying3 t4
      obtain rfl : v4 = .int .i64 k4 := by simpa using z4
      obtain ⟨v5, y5, c5, _, t5⟩ := hf 5 _ rfl
      obtain ⟨k5, z5, _⟩ := DataW.trod_int Tryd.underlying3 t5
      obtain rfl : v5 = .int .i64 k5 := by simpa using z5
      refine ⟨⟨k0, k1, k2, k3, k4, k5⟩, fun j hj => ?_⟩
      have : j = 0 ∨ j = 1 ∨ j = 2 ∨ j = 3 ∨ j = 4 ∨ j = 5 := by omega
      rcases this with rfl | rfl | rfl | rfl | rfl | rfl
      · exact c0
      · exact c1
      · exact c2
      · exact c3
      · exact c4
      · exact c5
    obtain ⟨G, hG⟩ := choose_lt each
    refine ⟨some a, (List.range len).map G, m, by simp, ?_⟩
    by_cases h0 : len = 0
    · subst h0
      exact .inl (by simp [gcells])
    · obtain ⟨b, o, sp⟩ := a
      have hsp : sp = none := by simpa [Addr.add] using World.cell?_spot (hG 0 (by omega) 0 (by omega))
      subst hsp
      refine .inr ⟨b, o, rfl, by have := World.block_lt_of_cell? W _ (hG 0 (by omega) 0 (by omega)); simpa [Addr.add] using this, fun j u hj => ?_⟩
      have hjl : j < len * 6 := by
        have := (List.getElem?_eq_some_iff.1 hj).1
        rw [gcells_len] at this
        simpa using this
      have hk : ((List.range len).map G)[j / 6]? = some (G (j / 6)) := by simp [show j / 6 < len by omega]
      have e := gcells_get _ _ _ hk (j % 6) (by omega)
      rw [show j / 6 * 6 + j % 6 = j by omega, hj] at e
      have := hG (j / 6) (by omega) (j % 6) (by omega)
      rw [show j / 6 * 6 + j % 6 = j by omega, Go.WideShapes.add_plain] at this
      rw [this, ← e]
end
theorem large_bd {l : Lg} (h : largeB l 4 = false) : l.far.length ≤ 9 ∧ l.gs.length ≤ 68 ∧ ∀ r ∈ l.far, r.length ≤ 9 := by
  unfold largeB at h
  simp only [Bool.or_eq_false_iff, decide_eq_false_iff_not, List.any_eq_false] at h
  obtain ⟨⟨⟨h1, h2⟩, h3⟩, _⟩ := h
  refine ⟨by omega, by omega, fun r hr => ?_⟩
  have := h3 r hr
  simp only [wide9, decide_eq_true_eq] at this
  omega
theorem law_any (A1 A2 : Option Addr) (c1 c2 : Nat) (l : Lg) (t : Int) (w : World) (hp : Pts w) (hF : FarAt w w.heap.size A1 l.far) (hG : GamesAt w w.heap.size A2 l.gs) :
    Calls Tryd.prog 3 #[lgv A1 l.far.length c1 A2 l.gs.length c2, .int .i64 t] w fun e w' => e = .returned (.bool true) ∧ Below w.heap.size w w' := by
  cases hL : largeB l 4 with
  | true => exact main_large awake_ok A1 A2 c1 c2 l t w hp hF hG hL
  | false =>
    obtain ⟨b1, b2, b3⟩ := large_bd hL
    by_cases h32 : 32 < l.gs.length
    · exact main_long awake_ok A1 A2 c1 c2 l t w hp hF hG hL h32 b2
    · have hl : LgAt w w.heap.size A1 A2 l := ⟨hF, hG, by omega, fun r hr => by have := b3 r hr; omega, by omega⟩
      cases hb : leagueB l with
      | false => exact main_bad awake_ok A1 A2 c1 c2 l t w hp hl hL (by omega) hb
      | true =>
        cases ht : inB t 0 ((l.far.length : Int) - 1) with
        | false => exact main_range awake_ok A1 A2 c1 c2 l t w hp hl hL (by omega) hb ht
        | true =>
          simp only [inB, Bool.and_eq_true, decide_eq_true_eq] at ht
          exact main_ok awake_ok A1 A2 c1 c2 l t w hp hl hL (by omega) hb ht.1 (by omega)
abbrev laidL {H : Type} : List (String × DataW H) := [("icehall/league.points", Rows.laid_icehall_league_points)]
theorem door_met (os : Os) (args : Array Value) : laidMetH Tryd.prog laidL ((World.doorLaid Tryd.prog 400 os).forCall (fun _ _ => 0) ⟨#[], args, []⟩).memory :=
  laidMetH_of_parts3 (fuel := 8) (laidMet_of_run' 8 (by kernel_rfl) (by kernel_rfl)) (by kernel_rfl) (by kernel_rfl)
set_option maxRecDepth 100000 in
theorem lifted (os : Os) (started : os.Started) (H : Type) (enc : TypeId × Value → H) :
    ReturnsInHanded {} Tryd.checked os 3 .any (fun w args => (Rows.leagueTravelSpec.pre enc Tryd.prog Tryd.f3 [] false w args ∧ laidMetH Tryd.prog laidL w) ∧ sizedMet enc Tryd.prog Tryd.f3 (OpenSpec.ofChange Rows.leagueTravelSpec) false w args)
      (Rows.leagueTravelSpec.post enc Tryd.prog Tryd.f3 false true false false) := by
  refine returnsInHanded_of_change_and (C := Tryd.checked) (X := fun w _ => laidMetH Tryd.prog laidL w) (fun _ _ _ hh h => h.of_heap hh) own10 started (by kernel_rfl) Tryd.func3
    (ChangeSpec.witness_shaped (enc := enc) (C := Tryd.checked) (os := os) (X := fun w _ => laidMetH Tryd.prog laidL w) false (World.doorLaid Tryd.prog 400 os) #[.agg #[.slice none 0 0, .slice none 0 0], .int .i64 0] 8 rfl (World.shaped_of_RefB (by kernel_rfl) (by kernel_rfl)) (by kernel_rfl) (by kernel_rfl) (by kernel_rfl) (door_met os _)) ?_
  intro W base args ds gs before hval0 hW _ _ hL _
  have hval : ∀ (j : Nat) t v, Tryd.f3.params[j]? = some t → args[j]? = some v → Value.okWide Tryd.prog W .any base t v := hval0
  have hW' := hW
  obtain ⟨p, q, hA0, hV, rfl, hfz, hnd⟩ := hW
  have hA : DataW.TrodAll enc Tryd.prog W 0 (fun _ => true) true Tryd.f3.params.toList args.toList ds p := hA0
  rw [Tryd.params3] at hA hval
  obtain ⟨v0, v1, d0, d1, p0, p1, rfl, rfl, rfl, h0, h1⟩ := trodAll_two hA
  obtain ⟨rfl, rfl⟩ := trodVars_none hV
  have k0 := h0
  have lt0 : ∀ x ∈ p0, x.block < W.heap.size := by obtain ⟨m, hm⟩ := k0; exact DataW.trod_lt m _ _ _ hm
  obtain ⟨x0, x1, y0, y1, n, rfl, _, _, r0, r1⟩ := open_agg2 Tryd.underlying25 (by kernel_rfl) (by kernel_rfl) (hval 0 25 v0 rfl rfl) h0
  obtain ⟨A1, far, c1, rfl, hF⟩ := far_of r0
  obtain ⟨A2, gms, c2, rfl, hG⟩ := games_of r1
  obtain ⟨t, rfl, rfl, rfl, wt⟩ := open_int Tryd.underlying3 (hval 1 3 v1 rfl rfl) h1
  clear hA0 hval0
  refine (law_any A1 A2 c1 c2 ⟨far, gms⟩ t W (pts_of_laid hL) hF hG).mono fun e W' ⟨he, bel⟩ => ?_
  subst he
  exact ⟨_, rfl, _, _, _, [], _, [], hW', trodAll_mk1 (shut_bool Tryd.underlying4 _), (trodAll_cons_mk (Below.trod laid10 (by kernel_rfl) (of_decide_eq_true (by kernel_rfl)) k0 bel lt0) (trodAll_cons_mk (shut_int Tryd.underlying3 wt) trodAll_mk0)), rfl, bel.frame _, fun h => by cases h⟩
theorem row_holds : Rows.LeagueTravelSaid :=
  OpenClaim.holds_of_wide 3 Tryd.f3 rfl rfl rfl rfl rfl rfl rfl ⟨rfl, rfl, rfl, rfl, rfl⟩ rfl rfl rfl rfl rfl (by kernel_rfl) Tryd.func3 (by kernel_rfl)
    (of_decide_eq_true (by kernel_rfl)) (by unfold Func.isWrapper; first | (rw [if_pos (by decide +kernel)]; kernel_rfl) | (rw [if_neg (by decide +kernel)]; exact ⟨rfl, rfl⟩))
    (fun os started H enc _ => lifted os started H enc)
theorem leagueTravel_holds : Rows.LeagueTravelCardSaid :=
  Claim7.holds_tied_plain_at .later [] [.data] true (true, "25aaca465115c7a88e5bba505f68a9eb45b2c61c0aa62a4acda12948d247abff") false
    row_holds (fun _ h => by cases h) (by kernel_rfl) (fun _ h => by cases h) leagueTravel_row_tie rfl ⟨rfl, rfl⟩ (by kernel_rfl) rfl
    (fun f fn hf hfn => by
      obtain rfl : f = 3 := Option.some.inj ((show Tryd.prog.funcNamed "icehall/icehalllaw10.LeagueTravel" = some 3 by kernel_rfl).symm.trans hf) |>.symm
      obtain rfl : fn = Tryd.f3 := (Option.some.inj (Tryd.func3.symm.trans hfn)).symm
      exact ⟨by kernel_rfl, fun j t ht => by
        rw [Tryd.params3] at ht
        have hm : t ∈ [25, 3] := by simpa using Array.mem_of_getElem? ht
        have hall : ([25, 3].all fun u => !Tryd.prog.wantsStandIn u) = true := by kernel_rfl
        exact (show Tryd.prog.wantsStandIn t = false by simpa using List.all_eq_true.1 hall t hm)⟩)
    (by kernel_rfl)
#print axioms leagueTravel_holds
end Go.Proofs.YtgbmmelkagcbdaaDoor
