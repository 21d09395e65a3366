/- Check of a valid league in whose schedule nothing is amiss. -/
import Derived.Test.YtgbmmelkagcbdaaDoorSamp
namespace Go.Proofs.YtgbmmelkagcbdaaDoor
open Go.RowKit Go Go.Shelf
/-- The world behind a function's entry that boxes the league in the block K. -/
structure Bx (A1 A2 : Option Addr) (c1 c2 : Nat) (l : Lg) (w : World) (K : Nat) (w1 : World) : Prop where
  below : Below w.heap.size w w1
  lo : w.heap.size ≤ K
  size : K < w1.heap.size
  c0 : w1.cell? ⟨K, 0, none⟩ = some (.slice A1 l.far.length c1)
  c1 : w1.cell? ⟨K, 1, none⟩ = some (.slice A2 l.gs.length c2)
  at_ : LgAt w1 w.heap.size A1 A2 l
theorem Bx.keepN {A1 A2 : Option Addr} {c1 c2 : Nat} {l : Lg} {w w1 w2 : World} {K n : Nat} (h : Bx A1 A2 c1 c2 l w K w1) (hb : Below n w1 w2) (hn : K < n) : Bx A1 A2 c1 c2 l w K w2 :=
  ⟨h.below.trans (hb.mono (by have := h.lo; omega)), h.lo, by have := h.size; have := hb.size; omega, by rw [bcell hb _ _ hn]; exact h.c0, by rw [bcell hb _ _ hn]; exact h.c1, h.at_.below (hb.mono (by have := h.lo; omega))⟩
theorem Bx.keep {A1 A2 : Option Addr} {c1 c2 : Nat} {l : Lg} {w w1 w2 : World} {K : Nat} (h : Bx A1 A2 c1 c2 l w K w1) (hb : Below w1.heap.size w1 w2) : Bx A1 A2 c1 c2 l w K w2 := h.keepN hb h.size
theorem bx_start {A1 A2 : Option Addr} (c1 c2 : Nat) {l : Lg} {w : World} (hl : LgAt w w.heap.size A1 A2 l) : Bx A1 A2 c1 c2 l w w.heap.size (w.alloc (.cells #[.slice A1 l.far.length c1, .slice A2 l.gs.length c2] 25)) :=
  ⟨(Below.refl _ _).alloc (Nat.le_refl _) _, Nat.le_refl _, by simp, by simp, by simp, hl.below ((Below.refl _ _).alloc (Nat.le_refl _) _)⟩
def clashB (h g : Gm) : Bool := h.d == g.d && (hasB h g.h || hasB h g.a)
/-- Nothing is amiss. -/
structure Fine (gs : List Gm) : Prop where
  day : ∀ (k : Nat) (g h : Gm), gs[k]? = some h → gs[k + 1]? = some g → h.d ≤ g.d
  no : ∀ (i k : Nat) (g h : Gm), k < i → gs[i]? = some g → gs[k]? = some h → clashB h g = false
set_option maxRecDepth 100000 in
set_option maxHeartbeats 4000000 in
theorem check_fine (A1 A2 : Option Addr) (c1 c2 : Nat) (l : Lg) (w : World) (hl : LgAt w w.heap.size A1 A2 l) (hb : leagueB l = true) (hf : Fine l.gs) (hcap : l.gs.length ≤ c2) :
    Calls Tryd.prog 9 #[lgv A1 l.far.length c1 A2 l.gs.length c2] w fun e w' => e = .returned (.tuple #[.int .i64 l.gs.length, .int .i64 0]) ∧ Below w.heap.size w w' := by
  have S0 := Lib.hid (bx_start c1 c2 hl)
  have h64 := (good_of hb).g64
  have HF := Lib.hid hf
  clear hl hf
  go_enter Tryd.func9, Tryd.ntmps9
  go_wp2_with (go_at_call 14; refine (isLeague_any _ _ _ _ l _ (S0.out.at_.more (by simp))).mono ?_; rintro e w1 ⟨rfl, hb1⟩; have S1 := Lib.hid (S0.out.keep hb1); have q1 := S1.out.c0; have q2 := S1.out.c1; simp only [hb])
  go_loopw [14] (fun i wr => ∃ k : Nat, k ≤ l.gs.length ∧ i = .int .i64 k ∧ Bx A1 A2 c1 c2 l w w.heap.size wr) (fun i _ => l.gs.length - (intOf i).toNat)
  case atStart => exact ⟨0, Nat.zero_le _, rfl, S1.out⟩
  case round =>
    obtain ⟨k, hk, rfl, hst⟩ := hrel
    clear q1 q2 S1 S0 hb1
    have q1 := hst.c0
    have q2 := hst.c1
    have hs := hst.size
    have HS := Lib.hid hst
    clear hst
    by_cases hlt : k < l.gs.length
    · obtain ⟨g, hg⟩ : ∃ g, l.gs[k]? = some g := ⟨_, List.getElem?_eq_getElem hlt⟩
      obtain ⟨b, o, rfl, hb', g1, g2, g3, g4, g5, g6⟩ := HS.out.at_.gs.at_ hg
      have HGK := Lib.hid hg
      clear hg
      obtain ⟨gd, gh, ga, ge, ghg, gag⟩ := g
      dsimp only at *
      have hkc : (k : Int) ≤ (c2 : Int) := by omega
      have hday : decide (0 < k) = false ∨ ∃ (k' : Nat) (h : Gm), (k : Int) - 1 = (k' : Int) ∧ decide (0 < k) = true ∧ k' < l.gs.length ∧ l.gs[k']? = some h ∧ h.d ≤ gd := by
        rcases Nat.eq_zero_or_pos k with h0 | hp
        · exact .inl (by simp [h0])
        · obtain ⟨k', rfl⟩ : ∃ k', k = k' + 1 := ⟨k - 1, by omega⟩
          obtain ⟨h, hh⟩ : ∃ h, l.gs[k']? = some h := ⟨_, List.getElem?_eq_getElem (by omega)⟩
          exact .inr ⟨k', h, by omega, by simp, by omega, hh, HF.out.day k' _ h hh HGK.out⟩
      have hz : b < wr.heap.size := by omega
      go_upto_region 6 with fail
      go_cut [32] (fun v W => v = .bool false ∧ ∃ n, W = (wr.alloc (.cells #[.int .i64 gd, .int .i64 gh, .int .i64 ga, .int .i64 ge, .int .i64 ghg, .int .i64 gag] 33)).drewN n)
      case first =>
        rcases hday with h0 | ⟨k', h, e1, hp, hk', hh, hdd⟩
        · go_quiet (fail)
          go_wp2
          go_meet
          exact ⟨rfl, _, rfl⟩
        · obtain ⟨b', o', ee, hb'', f1, f2, f3, f4, f5, f6⟩ := HS.out.at_.gs.at_ hh
          obtain ⟨rfl, rfl⟩ : b = b' ∧ o = o' := by simpa using ee
          clear hh ee
          have hlss : (decide (gd < h.d)) = false := by simpa using hdd
          go_quiet (fail)
          go_wp2
          go_meet
          exact ⟨rfl, _, rfl⟩
      case rest =>
        obtain ⟨rfl, n, rfl⟩ := hcut
        obtain ⟨w0, rfl⟩ : ∃ w0, w0 = wr := ⟨wr, rfl⟩
        have HS2 := Lib.hid (HS.out.keep (below_drewN ((Below.refl _ _).alloc (Nat.le_refl _) (.cells #[.int .i64 gd, .int .i64 gh, .int .i64 ga, .int .i64 ge, .int .i64 ghg, .int .i64 gag] 33)) n))
        clear g1 g2 g3 g4 g5 g6
        go_wp2
        go_loopw [39] (fun i wq => ∃ j : Nat, j ≤ k ∧ i = .int .i64 j ∧ Bx A1 (some ⟨b, o, none⟩) c1 c2 l w w.heap.size wq ∧ Below (w0.heap.size + 1) (w0.alloc (.cells #[.int .i64 gd, .int .i64 gh, .int .i64 ga, .int .i64 ge, .int .i64 ghg, .int .i64 gag] 33)) wq) (fun i _ => k - (intOf i).toNat)
        case atStart => exact ⟨0, Nat.zero_le _, rfl, HS2.out, below_drewN (Below.refl _ _) n⟩
        case round =>
          obtain ⟨j, hj, rfl, hst', hbq⟩ := hrel
          clear q1 q2 HS2
          have hsq : w0.heap.size + 1 ≤ wr.heap.size := by have := hbq.size; simpa using this
          have r0 : wr.cell? ⟨w0.heap.size, 0, none⟩ = some (.int .i64 gd) := by rw [bcell hbq _ _ (by omega)]; simp
          have r1 : wr.cell? ⟨w0.heap.size, 1, none⟩ = some (.int .i64 gh) := by rw [bcell hbq _ _ (by omega)]; simp
          have r2 : wr.cell? ⟨w0.heap.size, 2, none⟩ = some (.int .i64 ga) := by rw [bcell hbq _ _ (by omega)]; simp
          have z2 : w0.heap.size < wr.heap.size := by omega
          have HQ := Lib.hid hst'
          have HBQ := Lib.hid hbq
          clear hst' hbq
          by_cases hjk : j < k
          · obtain ⟨h, hh⟩ : ∃ h, l.gs[j]? = some h := ⟨_, List.getElem?_eq_getElem (by omega)⟩
            obtain ⟨b', o', ee, hb'', f1, f2, f3, f4, f5, f6⟩ := HQ.out.at_.gs.at_ hh
            obtain ⟨rfl, rfl⟩ : b = b' ∧ o = o' := by simpa using ee
            have hcl := HF.out.no k j _ h hjk HGK.out hh
            obtain ⟨hd, hH, ha, he, hhg, hag⟩ := h
            clear ee hh
            have acc : Below wr.heap.size wr (wr.alloc (.cells #[.int .i64 hd, .int .i64 hH, .int .i64 ha, .int .i64 he, .int .i64 hhg, .int .i64 hag] 33)) := (Below.refl _ _).alloc (Nat.le_refl _) _
            have hjc : (j : Int) < (k : Int) := by omega
            dsimp only at *
            have hcc : (hd == gd) = false ∨ (hd == gd) = true ∧ hasB ⟨hd, hH, ha, he, hhg, hag⟩ gh = false ∧ hasB ⟨hd, hH, ha, he, hhg, hag⟩ ga = false := by
              cases h1 : (hd == gd) <;> simp_all [clashB]
            clear hcl
            rcases hcc with e1 | ⟨e1, e2, e3⟩
            · go_wp2
              go_roundw
              case rel => exact ⟨j + 1, by omega, by go_num, HQ.out.keep acc, HBQ.out.trans (acc.mono (by omega))⟩
              case measure => simp [intOf]; omega
            · go_wp2_with (go_at_call 19; refine (has_any _ _ _ _ _ _ _ _).mono ?_; rintro e w' ⟨rfl, hb2⟩; have hc2 := bcell hb2; have acc := acc.trans (hb2.mono acc.size))
              go_roundw
              case rel => exact ⟨j + 1, by omega, by go_num, HQ.out.keep acc, HBQ.out.trans (acc.mono (by omega))⟩
              case measure => simp [intOf]; omega
          · go_wp2
            go_roundw
            case rel => exact ⟨k + 1, by omega, by go_num, HQ.out⟩
            case measure => simp [intOf]; omega
    · obtain rfl : k = l.gs.length := by omega
      go_wp2
      go_returns
      exact ⟨rfl, HS.out.below⟩
end Go.Proofs.YtgbmmelkagcbdaaDoor
