/- The rows of a table: the walk of rows. -/
import Derived.Test.YtgbmmelkagcbdaaDoorRwsb
import Derived.Deep.AppendLies
namespace Go.Proofs.YtgbmmelkagcbdaaDoor
open Go.RowKit Go Go.Shelf
/-- The world in the loops of rows. -/
structure RSt (A1 A2 : Option Addr) (c1 c2 : Nat) (l : Lg) (wb : World) (K : Nat) (w : World) (g bo : Nat) (R : List Rw) (W : World) : Prop where
  bx : Bx A1 A2 c1 c2 l wb K W
  below : Below w.heap.size w W
  size : w.heap.size + 2 ≤ W.heap.size
  rat : RAt W g R
  out : W.cell? ⟨bo, 0, none⟩ = some (.slice (some ⟨g, 0, none⟩) 3 3)
  pts : Pts W
theorem RAt.keep {W W' : World} {g : Nat} {R : List Rw} (h : RAt W g R) (hb : Below W.heap.size W W') : RAt W' g R := (hb.block g (Array.getElem?_eq_some_iff.1 h).1).trans h
variable {A1 A2 : Option Addr} {c1 c2 : Nat} {l : Lg} {wb : World} {K : Nat} {w : World} {g bo : Nat} {R R' : List Rw} {W W' : World}
theorem RSt.keep (h : RSt A1 A2 c1 c2 l wb K w g bo R W) (hbo : bo < W.heap.size) (hb : Below W.heap.size W W') : RSt A1 A2 c1 c2 l wb K w g bo R W' :=
  ⟨h.bx.keep hb, h.below.trans (hb.mono (by have := h.size; omega)), by have := h.size; have := hb.size; omega, h.rat.keep hb, by rw [bcell hb _ _ hbo]; exact h.out, h.pts.below hb (by have := h.size; omega)⟩
theorem below_row {B g : Nat} {W W' : World} (hgb : W.grownBy W' (some g)) (hB : B ≤ W.heap.size) (hg : B ≤ g) : Below B W W' := (Below.refl B W).grown hgb hB (fun k e => by cases e; exact hg)
theorem RSt.upd (h : RSt A1 A2 c1 c2 l wb K w w.heap.size (w.heap.size + 1) R W) (hK : K < w.heap.size) (hr : RAt W' w.heap.size R') (hgb : W.grownBy W' (some w.heap.size)) : RSt A1 A2 c1 c2 l wb K w w.heap.size (w.heap.size + 1) R' W' := by
  have hs := h.size
  have hb := below_row hgb (B := w.heap.size) (by omega) (Nat.le_refl _)
  exact ⟨h.bx.keepN hb hK, h.below.trans hb, Nat.le_trans hs hgb.size, hr, by rw [hgb.cell_far _ (by simp; omega) (by simp)]; exact h.out, h.pts.below hb (by omega)⟩
theorem mk3 (w : World) : (Instr.makeSlice 53 (.int .i64 3) (.int .i64 3)).run Tryd.prog w = .ok (.slice (some ⟨w.heap.size, 0, none⟩) 3 3) (w.alloc (.cells #[.int .i64 0, .int .i64 0, .int .i64 0, .int .i64 0, .int .i64 0, .int .i64 0, .int .i64 0, .int .i64 0, .int .i64 0, .int .i64 0, .int .i64 0, .int .i64 0, .int .i64 0, .int .i64 0, .int .i64 0, .int .i64 0, .int .i64 0, .int .i64 0] 58)) := by kernel_rfl
set_option maxRecDepth 100000 in
set_option maxHeartbeats 4000000 in
theorem rows_any (A1 A2 : Option Addr) (c1 c2 K : Nat) (l : Lg) (wb w : World) (hB : Bx A1 A2 c1 c2 l wb K w) (hp : Pts w) (hg : Good l) (h3 : l.far.length = 3) :
    Calls Tryd.prog 20 #[.pointer (some ⟨K, 0, none⟩)] w fun e w' => ∃ g, e = .returned (.slice (some ⟨g, 0, none⟩) 3 3) ∧ w.heap.size ≤ g ∧ RAt w' g (rowsS l) ∧ Below w.heap.size w w' := by
  have q1 := hB.c0
  have q2 := hB.c1
  rw [h3] at q1
  have hs := hB.size
  have HB := Lib.hid hB
  have HP := Lib.hid hp
  have HG := Lib.hid hg
  have h64 := hg.g64
  clear hB hp hg
  have hmk := mk3
  go_enter Tryd.func20, Tryd.ntmps20
  go_wp2
  refine wp_loop_rounds 4 ?_
  rw [rounds_succ]; go_wp2
  rw [rounds_succ]; go_wp2
  rw [rounds_succ]; go_wp2
  rw [rounds_succ]; go_wp2
  have hKs : K < w.heap.size := hs
  go_loopw [38] (fun i wr => ∃ k : Nat, k ≤ l.gs.length ∧ i = .int .i64 k ∧ RSt A1 A2 c1 c2 l wb K w w.heap.size (w.heap.size + 1) (rows2 (l.gs.take k)) wr) (fun i _ => l.gs.length - (intOf i).toNat)
  case atStart =>
    refine ⟨0, Nat.zero_le _, rfl, HB.out.keep ?_, ?_, by simp, ?_, by simp, HP.out.below (B := w.heap.size) ?_ (by omega)⟩
    · go_grown
    · go_grown
    · exact (Below.heap_alloc _ _ _ (by simp)).trans (World.alloc_heap_new _ _)
    · go_grown
  case round =>
    obtain ⟨k, hk, rfl, hst⟩ := hrel
    have HST := Lib.hid hst
    have hsz := hst.size
    clear q1 q2
    by_cases hlt : k < l.gs.length
    · obtain ⟨gm, hgm⟩ : ∃ g, l.gs[k]? = some g := ⟨_, List.getElem?_eq_getElem hlt⟩
      obtain ⟨b, o, rfl, hb, g1, g2, g3, g4, g5, g6⟩ := hst.bx.at_.gs.at_ hgm
      obtain ⟨r1, r2, r3, r4⟩ := HG.out.game_bd hgm
      have q2 := hst.bx.c1
      have hwb := hst.bx.below.size
      have hsn := rows2_snoc hgm
      have HSN := Lib.hid hsn
      have HGM := Lib.hid hgm
      clear hst hsn hgm
      obtain ⟨gd, gh, ga, ge, ghg, gag⟩ := gm
      dsimp only at *
      obtain ⟨h, rfl⟩ := Int.eq_ofNat_of_zero_le r1
      by_cases he : ge = 0
      · have he' : (ge == 0) = true := by simp [he]
        have HE := Lib.hid he
        clear he
        go_wp2
        go_roundw
        case rel => exact ⟨k + 1, by omega, by go_num, by rw [HSN.out, step2, if_pos HE.out]; exact HST.out.keep (by omega) (by go_grown)⟩
        case measure => simp [intOf]; omega
      · have he' : (ge == 0) = false := by simp [he]
        have HE := Lib.hid he
        clear he
        obtain ⟨aN, rfl⟩ := Int.eq_ofNat_of_zero_le r3
        obtain ⟨rr, hrr⟩ : ∃ rr, resI ⟨gd, h, aN, ge, ghg, gag⟩ = rr := ⟨_, rfl⟩
        have hr4 : rr < 4 := by rw [← hrr]; exact resI_lt _
        have hr4' : (rr : Int) < 4 := by omega
        have HRR := Lib.hid hrr
        clear hrr
        go_upto_region 13 with (go_at_call 41; refine (result_any _ _ _ _ _ _ _).mono ?_; rintro e w1 ⟨rfl, hb1⟩; rw [HRR.out]; have S1 := Lib.hid (HST.out.keep (by omega) (below_box hb1)); have p0 := S1.out.pts.home hr4; have p1 := S1.out.pts.away hr4)
        have x1 := bcell hb1 wr.heap.size 1 (by simp)
        have x2 := bcell hb1 wr.heap.size 2 (by simp)
        have x4 := bcell hb1 wr.heap.size 4 (by simp)
        have x5 := bcell hb1 wr.heap.size 5 (by simp)
        simp at x1 x2 x4 x5
        have hs1 : wr.heap.size < w1.heap.size := by have := hb1.size; simp at this; omega
        have S2 := Lib.hid (S1.out.keep (by omega) ((Below.refl _ _).alloc (Nat.le_refl _) (.cells #[.int .i64 (ptH rr), .int .i64 (ptA rr)] 68)))
        obtain ⟨W2, hW2⟩ : ∃ W2, w1.alloc (.cells #[.int .i64 (ptH rr), .int .i64 (ptA rr)] 68) = W2 := ⟨_, rfl⟩
        have y1 : W2.cell? ⟨wr.heap.size, 1, none⟩ = some (.int .i64 h) := by rw [← hW2, ← x1]; simp [go_sem, hs1]
        have y2 : W2.cell? ⟨wr.heap.size, 2, none⟩ = some (.int .i64 aN) := by rw [← hW2, ← x2]; simp [go_sem, hs1]
        have y4 : W2.cell? ⟨wr.heap.size, 4, none⟩ = some (.int .i64 ghg) := by rw [← hW2, ← x4]; simp [go_sem, hs1]
        have y5 : W2.cell? ⟨wr.heap.size, 5, none⟩ = some (.int .i64 gag) := by rw [← hW2, ← x5]; simp [go_sem, hs1]
        have v0 : W2.cell? ⟨w1.heap.size, 0, none⟩ = some (.int .i64 (ptH rr)) := by rw [← hW2]; simp
        have v1 : W2.cell? ⟨w1.heap.size, 1, none⟩ = some (.int .i64 (ptA rr)) := by rw [← hW2]; simp
        have hs2 : W2.heap.size = w1.heap.size + 1 := by rw [← hW2]; simp
        simp only [hW2] at S2 ⊢
        clear hW2 x1 x2 x4 x5 p0 p1 S1 hb1
        have hlen := rows2_len (l.gs.take k)
        obtain ⟨rh, hrh⟩ : ∃ r, (rows2 (l.gs.take k))[h]? = some r := ⟨_, List.getElem?_eq_getElem (by omega)⟩
        have HRH := Lib.hid hrh
        clear hrh
        have hs3 : w.heap.size + 2 ≤ w1.heap.size := by omega
        go_upto_region 14 with (go_at_call 40; refine (add_any w.heap.size (w.heap.size + 1) h 3 3 _ rh _ _ _ _ S2.out.rat HRH.out S2.out.out (by omega)).mono ?_; rintro e w3 ⟨rfl, hra, hgb, hse⟩)
        have S3 := Lib.hid (S2.out.upd hKs hra hgb)
        have y1' := hgb.cell y1 (by simp; omega)
        have y2' := hgb.cell y2 (by simp; omega)
        have y4' := hgb.cell y4 (by simp; omega)
        have y5' := hgb.cell y5 (by simp; omega)
        have v0' := hgb.cell v0 (by simp; omega)
        have v1' := hgb.cell v1 (by simp; omega)
        clear y1 y2 y4 y5 v0 v1 hra hgb S2
        obtain ⟨ra, hra⟩ : ∃ r, ((rows2 (l.gs.take k)).set h (rh.add (ptH rr) ghg gag))[aN]? = some r := ⟨_, List.getElem?_eq_getElem (by simp; omega)⟩
        have HRA := Lib.hid hra
        clear hra
        go_wp2_with (go_at_call 40; refine (add_any w.heap.size (w.heap.size + 1) aN 3 3 _ ra _ _ _ _ S3.out.rat HRA.out S3.out.out (by omega)).mono ?_; rintro e w4 ⟨rfl, hrb, hgc, hse2⟩)
        have S4 := Lib.hid (S3.out.upd hKs hrb hgc)
        go_roundw
        case rel =>
          refine ⟨k + 1, by omega, by go_num, ?_⟩
          rw [HSN.out, step2, if_neg HE.out]
          simp only [HRR.out, Int.toNat_natCast, addR, HRH.out, HRA.out]
          exact S4.out
        case measure => simp [intOf]; omega
    · have hkk : l.gs.take k = l.gs := List.take_of_length_le (by omega)
      rw [hkk] at HST
      have q2 := hst.bx.c1
      clear hst hkk
      have hlt' : ¬ ((k : Int) < (l.gs.length : Int)) := by omega
      go_wp2
      go_loopw [75] (fun i wq => ∃ k : Nat, k ≤ l.gs.length ∧ i = .int .i64 k ∧ RSt A1 A2 c1 c2 l wb K w w.heap.size (w.heap.size + 1) (rows3 (rows2 l.gs) (l.gs.take k)) wq) (fun i _ => l.gs.length - (intOf i).toNat)
      case atStart => exact ⟨0, Nat.zero_le _, rfl, HST.out⟩
      case round =>
        clear HST hsz q2 hlt hlt' hk
        obtain ⟨k, hk, rfl, hst⟩ := hrel
        have HST := Lib.hid hst
        have hsz := hst.size
        by_cases hlt : k < l.gs.length
        · obtain ⟨gm, hgm⟩ : ∃ g, l.gs[k]? = some g := ⟨_, List.getElem?_eq_getElem hlt⟩
          obtain ⟨b, o, rfl, hb, g1, g2, g3, g4, g5, g6⟩ := hst.bx.at_.gs.at_ hgm
          obtain ⟨r1, r2, r3, r4⟩ := HG.out.game_bd hgm
          have q2 := hst.bx.c1
          have oo := hst.out
          have hwb := hst.bx.below.size
          have hsn := rows3_snoc (R := rows2 l.gs) hgm
          have HSN := Lib.hid hsn
          have HGM := Lib.hid hgm
          have hlen : (rows3 (rows2 l.gs) (l.gs.take k)).length = 3 := by rw [rows3_len, rows2_len]
          obtain ⟨R, hR⟩ : ∃ R, rows3 (rows2 l.gs) (l.gs.take k) = R := ⟨_, rfl⟩
          rw [hR] at HST HSN hlen
          clear hst hsn hgm hR
          obtain ⟨gd, gh, ga, ge, ghg, gag⟩ := gm
          dsimp only at *
          obtain ⟨h, rfl⟩ := Int.eq_ofNat_of_zero_le r1
          obtain ⟨aN, rfl⟩ := Int.eq_ofNat_of_zero_le r3
          obtain ⟨rh, hrh⟩ : ∃ r, R[h]? = some r := ⟨_, List.getElem?_eq_getElem (by omega)⟩
          obtain ⟨ra, hra⟩ : ∃ r, R[aN]? = some r := ⟨_, List.getElem?_eq_getElem (by omega)⟩
          have m1 : wr.cell? ⟨w.heap.size, h * 6 + 2, none⟩ = some (.int .i64 rh.p) := HST.out.rat.cell hrh 2 (by omega)
          have m2 : wr.cell? ⟨w.heap.size, aN * 6 + 2, none⟩ = some (.int .i64 ra.p) := HST.out.rat.cell hra 2 (by omega)
          have HRH := Lib.hid hrh
          have HRA := Lib.hid hra
          clear hrh hra
          have b1 : (h : Int) < 3 := by omega
          have b2 : (aN : Int) < 3 := by omega
          have z0 : w.heap.size < wr.heap.size := by omega
          have z1 : w.heap.size + 1 < wr.heap.size := by omega
          have z2 : b < wr.heap.size := by omega
          go_upto_region 19 with fail
          go_quiet (fail)
          have hc : (ge != 0) = false ∨ (ge != 0) = true ∧ (rh.p == ra.p) = false ∨ (ge != 0) = true ∧ (rh.p == ra.p) = true := by cases (ge != 0) <;> cases (rh.p == ra.p) <;> simp
          rcases hc with he | ⟨he, hpp⟩ | ⟨he, hpp⟩
          · go_wp2
            go_quiet (fail)
            go_wp2
            go_roundw
            case rel =>
              refine ⟨k + 1, by omega, by go_num, ?_⟩
              rw [HSN.out, step3, if_neg (fun hh => hh.1 (by simpa using he))]
              exact HST.out.keep z1 (below_drewN ((Below.refl _ _).alloc (Nat.le_refl _) _) _)
            case measure => simp [intOf]; omega
          · go_wp2
            go_quiet (fail)
            go_wp2
            go_roundw
            case rel =>
              refine ⟨k + 1, by omega, by go_num, ?_⟩
              rw [HSN.out, step3, if_neg (fun hh => by have := hh.2; simp [ptsOf, HRH.out, HRA.out] at this; simp [this] at hpp)]
              exact HST.out.keep z1 (below_drewN ((Below.refl _ _).alloc (Nat.le_refl _) _) _)
            case measure => simp [intOf]; omega
          · go_wp2
            go_quiet (fail)
            obtain ⟨rr, hrr⟩ : ∃ rr, resI ⟨gd, h, aN, ge, ghg, gag⟩ = rr := ⟨_, rfl⟩
            have hr4 : rr < 4 := by rw [← hrr]; exact resI_lt _
            have hr4' : (rr : Int) < 4 := by omega
            have HRR := Lib.hid hrr
            clear hrr
            go_upto_region 22 with (go_at_call 41; refine (result_any _ _ _ _ _ _ _).mono ?_; rintro e w1 ⟨rfl, hb1⟩; rw [HRR.out]; have S1 := Lib.hid (HST.out.keep z1 ((below_drewN ((Below.refl _ _).alloc (Nat.le_refl _) _) _).trans (hb1.mono (by simp)))); have p0 := S1.out.pts.home hr4; have p1 := S1.out.pts.away hr4)
            have hs1 : wr.heap.size < w1.heap.size := by have := hb1.size; simp at this; omega
            have S2 := Lib.hid (S1.out.keep (by omega) ((Below.refl _ _).alloc (Nat.le_refl _) (.cells #[.int .i64 (ptH rr), .int .i64 (ptA rr)] 68)))
            obtain ⟨W2, hW2⟩ : ∃ W2, w1.alloc (.cells #[.int .i64 (ptH rr), .int .i64 (ptA rr)] 68) = W2 := ⟨_, rfl⟩
            have v0 : W2.cell? ⟨w1.heap.size, 0, none⟩ = some (.int .i64 (ptH rr)) := by rw [← hW2]; simp
            have v1 : W2.cell? ⟨w1.heap.size, 1, none⟩ = some (.int .i64 (ptA rr)) := by rw [← hW2]; simp
            have hs2 : W2.heap.size = w1.heap.size + 1 := by rw [← hW2]; simp
            simp only [hW2] at S2 ⊢
            clear hW2 p0 p1 S1 hb1 g1 g2 g3 g4 g5 g6 m1 m2 oo q2
            have hs3 : w.heap.size + 2 ≤ w1.heap.size := by omega
            have m1 : W2.cell? ⟨w.heap.size, h * 6 + 5, none⟩ = some (.int .i64 rh.m) := S2.out.rat.cell HRH.out 5 (by omega)
            have f1 : W2.frozen? ⟨w.heap.size, h * 6 + 5, none⟩ = false := S2.out.rat.frozen _
            go_region
            have S3 := Lib.hid ((S2.out.upd hKs (S2.out.rat.set HRH.out 5 (by omega) (wrap64 (rh.m + ptH rr))) (grownBy_set _ _ _ _)).keep (by simp; omega) (Below.refl _ _).drew)
            have hgb := grownBy_drew (grownBy_set W2 w.heap.size (h * 6 + 5) (.int .i64 (wrap64 (rh.m + ptH rr))))
            have v1' := hgb.cell v1 (by simp; omega)
            obtain ⟨W3, hW3⟩ : ∃ W3, (W2.setCell ⟨w.heap.size, h * 6 + 5, none⟩ (.int .i64 (wrap64 (rh.m + ptH rr)))).drew = W3 := ⟨_, rfl⟩
            simp only [hW3] at S3 v1' ⊢
            have hs4 : W3.heap.size = w1.heap.size + 1 := by rw [← hW3, ← hs2]; simp
            clear hgb hW3 v0 v1 m1 f1 S2
            obtain ⟨rb, hrb⟩ : ∃ r, (R.set h (rh.put 5 (wrap64 (rh.m + ptH rr))))[aN]? = some r := ⟨_, List.getElem?_eq_getElem (by simp; omega)⟩
            have m2 : W3.cell? ⟨w.heap.size, aN * 6 + 5, none⟩ = some (.int .i64 rb.m) := S3.out.rat.cell hrb 5 (by omega)
            have f2 : W3.frozen? ⟨w.heap.size, aN * 6 + 5, none⟩ = false := S3.out.rat.frozen _
            have HRB := Lib.hid hrb
            clear hrb
            go_wp2
            go_region
            have S4 := Lib.hid ((S3.out.upd hKs (S3.out.rat.set HRB.out 5 (by omega) (wrap64 (rb.m + ptA rr))) (grownBy_set _ _ _ _)).keep (by simp; omega) (Below.refl _ _).drew)
            go_wp2
            go_roundw
            case rel =>
              refine ⟨k + 1, by omega, by go_num, ?_⟩
              rw [HSN.out, step3, if_pos ⟨by simpa using he, by simpa [ptsOf, HRH.out, HRA.out] using hpp⟩]
              simp only [HRR.out, Int.toNat_natCast, amoR, HRH.out]
              have := HRB.out
              simp only [Rw.put] at this
              simp only [this]
              exact S4.out
            case measure => simp [intOf]; omega
        · have hkk : l.gs.take k = l.gs := List.take_of_length_le (by omega)
          have hlt' : ¬ ((k : Int) < (l.gs.length : Int)) := by omega
          have oo := hst.out
          go_wp2
          go_returns
          rw [hkk] at HST
          exact ⟨_, rfl, Nat.le_refl _, HST.out.rat, HST.out.below⟩
end Go.Proofs.YtgbmmelkagcbdaaDoor
