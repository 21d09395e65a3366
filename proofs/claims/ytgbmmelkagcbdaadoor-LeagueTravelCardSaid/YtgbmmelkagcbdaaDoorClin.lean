/- Clinched at the sample league. -/
import Derived.Test.YtgbmmelkagcbdaaDoorOutc
import Derived.Deep.RegionHeld3
namespace Go.Proofs.YtgbmmelkagcbdaaDoor
open Go.RowKit Go Go.Shelf
theorem oth_lt (t : T6) (x : Int) : decide (oth t x < 3) = true := by
  unfold oth
  split <;> split <;> decide
theorem oth_ge (t : T6) (x : Int) : decide (3 ≤ oth t x) = false := by
  unfold oth
  split <;> split <;> decide
theorem out_len : (outK 5).length = 16 := by kernel_rfl
theorem out_first : ∃ t, t ∈ outK 5 := List.exists_mem_of_length_pos (by rw [out_len]; omega)
theorem below_rng {B r : Nat} {W W' : World} (hg : W.grownBy W' (some r)) (hB : B ≤ W.heap.size) (hr : B ≤ r) : Below B W W' := below_row hg hB hr
/-- The world in the loop over the outcomes. -/
structure Cl (A1 A2 : Option Addr) (c1 c2 : Nat) (w : World) (b r cnt : Nat) (done : T6 → Prop) (W : World) : Prop where
  bx : Bx A1 A2 c1 c2 smp w w.heap.size W
  rng : Rng W b r 16 (· ∈ outK 5) done cnt
  lr : w.heap.size < r
theorem Cl.keep {A1 A2 : Option Addr} {c1 c2 b r cnt : Nat} {w W W' : World} {done : T6 → Prop} (h : Cl A1 A2 c1 c2 w b r cnt done W) (hb : Below W.heap.size W W') : Cl A1 A2 c1 c2 w b r cnt done W' := by
  refine ⟨h.bx.keep hb, h.rng.kept (row := none) ⟨hb.os, hb.tape, hb.output, hb.size, fun k hk _ => hb.block k hk⟩ (by simp) (by simp), h.lr⟩
theorem Cl.next {A1 A2 : Option Addr} {c1 c2 b r cnt cnt' : Nat} {w W W' : World} {done done' : T6 → Prop} (h : Cl A1 A2 c1 c2 w b r cnt done W) (hg : W.grownBy W' (some r)) (hr : Rng W' b r 16 (· ∈ outK 5) done' cnt') : Cl A1 A2 c1 c2 w b r cnt' done' W' :=
  ⟨h.bx.keepN (n := w.heap.size + 1) (below_rng hg (by have := h.bx.size; omega) (by have := h.lr; omega)) (by omega), hr, h.lr⟩
set_option maxRecDepth 100000 in
set_option maxHeartbeats 4000000 in
theorem clinched_smp (A1 A2 : Option Addr) (c1 c2 : Nat) (w : World) (hl : LgAt w w.heap.size A1 A2 smp) (hp : Pts w) :
    Calls Tryd.prog 11 #[lgv A1 3 c1 A2 5 c2, .int .i64 0, .int .i64 3] w fun e w' => e = .returned (.tuple #[.bool true, .bool false, .int .i64 0]) ∧ Below w.heap.size w w' := by
  have S0 := Lib.hid (bx_start c1 c2 hl)
  have HP := Lib.hid hp
  clear hl hp
  go_enter Tryd.func11, Tryd.ntmps11
  go_wp2_with (first
    | (go_at_call 30; refine (error_any A1 A2 c1 c2 w.heap.size smp 0 3 w _ S0.out smp_league (by decide) (by decide)).mono ?_; rintro e w1 ⟨rfl, hb1⟩; have S1 := Lib.hid (S0.out.keep hb1))
    | (go_at_call 31; refine (outcomes_smp A1 A2 c1 c2 w.heap.size w _ S1.out (HP.out.below S1.out.below (by have := HP.out.1; omega))).mono ?_; rintro e w2 ⟨b, rfl, hT, hb2⟩; have S2 := Lib.hid (S1.out.keep hb2); have HT := Lib.hid hT; clear hT)
    | (at_range; refine wpList_range_tots _ rfl _ rfl b 16 _ rfl HT.out w2.heap.size rfl ?_; intro w3 cnt hrg hcn hgr hsz))
  go_frame
  have C3 : Hid (Cl A1 A2 c1 c2 w b w2.heap.size cnt (fun _ => False) w3) := Lib.hid ⟨S2.out.keep ⟨hgr.os, hgr.tape, hgr.output, hgr.size, fun k hk => hgr.block k hk (by simp)⟩, hrg, S2.out.size⟩
  clear hrg hcn hgr hsz
  go_loopw [6, 7] (fun i o wr => i = .bool true ∧ ∃ (b' : Bool) (done : T6 → Prop) (cnt : Nat), o = .bool b' ∧ (b' = true → ∀ t, ¬ done t) ∧ Cl A1 A2 c1 c2 w b w2.heap.size cnt done wr) (fun _ _ wr => wr.rangeLeft b w2.heap.size)
  case atStart => exact ⟨rfl, true, _, _, rfl, fun _ _ h => h, C3.out⟩
  case round =>
    obtain ⟨rfl, o, done, cn, rfl, hno, hc⟩ := hrel
    have HC := Lib.hid hc
    have HN := Lib.hid hno
    clear hc hno C3
    obtain ⟨wi, hwi⟩ : ∃ wi : World, wi = wr := ⟨_, rfl⟩
    subst hwi
    go_wp2_with (at_next; refine wpList_next_tots _ rfl _ rfl b w2.heap.size _ cn _ done rfl HC.out.rng (fun hc0 hd0 => ?_) (fun t c w6 cn2 hp0 hok0 hnd0 hrg0 hlt6 hgr0 hsz0 hen => ?_); (have HD := Lib.hid hd0; clear hd0 hc0); rotate_left; (have C6 := Lib.hid (HC.out.next hgr0 hrg0); clear hp0 hok0 hrg0 hgr0 hnd0 hsz0; obtain ⟨ta, tb, tc, td, te, tf⟩ := t; dsimp only [tv] at hen; dsimp only [tv]); rotate_left)
    · have hof : o = false := by
        obtain ⟨t, ht⟩ := out_first
        cases o
        · rfl
        · exact absurd (HD.out t ht) (HN.out rfl t)
      subst hof
      go_returns
      exact ⟨rfl, HC.out.bx.below⟩
    · obtain ⟨W0, hW0⟩ : ∃ W0, w6.alloc (.cells #[.int .i64 ta, .int .i64 tb, .int .i64 tc, .int .i64 td, .int .i64 te, .int .i64 tf] 66) = W0 := ⟨_, rfl⟩
      have hbW : Below w6.heap.size w6 W0 := by rw [← hW0]; exact (Below.refl _ _).alloc (Nat.le_refl _) _
      have C7 := Lib.hid (C6.out.keep hbW)
      clear hbW
      have t0 : W0.cell? ⟨w6.heap.size, 0, none⟩ = some (.int .i64 ta) := by rw [← hW0]; simp
      have t1 : W0.cell? ⟨w6.heap.size, 1, none⟩ = some (.int .i64 tb) := by rw [← hW0]; simp
      have t2 : W0.cell? ⟨w6.heap.size, 2, none⟩ = some (.int .i64 tc) := by rw [← hW0]; simp
      have t3 : W0.cell? ⟨w6.heap.size, 3, none⟩ = some (.int .i64 td) := by rw [← hW0]; simp
      have t4 : W0.cell? ⟨w6.heap.size, 4, none⟩ = some (.int .i64 te) := by rw [← hW0]; simp
      have t5 : W0.cell? ⟨w6.heap.size, 5, none⟩ = some (.int .i64 tf) := by rw [← hW0]; simp
      have t6 : W0.cell? ⟨w.heap.size, 0, none⟩ = some (.slice A1 3 c1) := C7.out.bx.c0
      have z0 : w6.heap.size < W0.heap.size := by rw [← hW0]; simp
      have z1 : w.heap.size < W0.heap.size := C7.out.bx.size
      have oL := oth_lt (ta, tb, tc, td, te, tf) ta
      have oG := oth_ge (ta, tb, tc, td, te, tf) (IntKind.i64.wrap (ta + 1))
      simp only [hW0]
      clear hW0 hen
      go_region_held3 (fun w' => (w'.cell? ⟨w6.heap.size, 0, none⟩ = some (.int .i64 ta) ∧ w'.cell? ⟨w6.heap.size, 1, none⟩ = some (.int .i64 tb) ∧ w'.cell? ⟨w6.heap.size, 2, none⟩ = some (.int .i64 tc) ∧ w'.cell? ⟨w6.heap.size, 3, none⟩ = some (.int .i64 td) ∧ w'.cell? ⟨w6.heap.size, 4, none⟩ = some (.int .i64 te) ∧ w'.cell? ⟨w6.heap.size, 5, none⟩ = some (.int .i64 tf) ∧ w'.cell? ⟨w.heap.size, 0, none⟩ = some (.slice A1 3 c1)) ∧ Below W0.heap.size W0 w' ∧ w6.heap.size < w'.heap.size ∧ w.heap.size < w'.heap.size)
        (first | (refine ⟨⟨?_, ?_, ?_, ?_, ?_, ?_, ?_⟩, ?_, ?_, ?_⟩ <;> first | exact (Below.refl _ _).drew | (simp [go_sem, *]; done) | (simp; omega)) | (go_split_ands; refine ⟨⟨?_, ?_, ?_, ?_, ?_, ?_, ?_⟩, ?_, ?_, ?_⟩ <;> first | (rw [hc _ _ (by assumption)]; assumption) | (exact Below.trans (by assumption) (hg.mono (Below.size (by assumption)))) | omega))
        ((first
          | (go_at_call 32; refine (others_any _ _ _ _ _ _ _ _).mono ?_; rintro e w1 ⟨rfl, hg⟩; have hc := bcell hg; have hz := hg.size)))
      go_split_ands
      have hbl : Below W0.heap.size W0 w1 := by assumption
      have C8 := Lib.hid (C7.out.keep hbl)
      clear t0 t1 t2 t3 t4 t5 t6 z0 z1 hg hc hz hbl
      cases o
      · go_wp2
        go_quiet (fail)
        go_wp2
        go_roundw
        case rel => exact ⟨rfl, false, _, cn2, rfl, (fun h => by cases h), (C8.out.keep (below_drewN (Below.refl _ _) _))⟩
        case measure => rw [((C8.out.keep (below_drewN (Below.refl _ _) _)).rng).left_eq, HC.out.rng.left_eq]; exact hlt6
      · go_wp2
        obtain ⟨W1, hW1⟩ : ∃ W1, w1 = W1 := ⟨_, rfl⟩
        subst hW1
        go_region_held3 (fun w' => (w'.cell? ⟨w6.heap.size, 0, none⟩ = some (.int .i64 ta) ∧ w'.cell? ⟨w6.heap.size, 1, none⟩ = some (.int .i64 tb) ∧ w'.cell? ⟨w6.heap.size, 2, none⟩ = some (.int .i64 tc) ∧ w'.cell? ⟨w6.heap.size, 3, none⟩ = some (.int .i64 td) ∧ w'.cell? ⟨w6.heap.size, 4, none⟩ = some (.int .i64 te) ∧ w'.cell? ⟨w6.heap.size, 5, none⟩ = some (.int .i64 tf) ∧ w'.cell? ⟨w.heap.size, 0, none⟩ = some (.slice A1 3 c1)) ∧ Below w1.heap.size w1 w' ∧ w6.heap.size < w'.heap.size ∧ w.heap.size < w'.heap.size)
          (first | (refine ⟨⟨?_, ?_, ?_, ?_, ?_, ?_, ?_⟩, ?_, ?_, ?_⟩ <;> first | exact (Below.refl _ _).drew | (simp [go_sem, *]; done) | (simp; omega)) | (go_split_ands; refine ⟨⟨?_, ?_, ?_, ?_, ?_, ?_, ?_⟩, ?_, ?_, ?_⟩ <;> first | (rw [hc _ _ (by assumption)]; assumption) | (exact Below.trans (by assumption) (hg.mono (Below.size (by assumption)))) | omega))
          ((first
            | (go_at_call 32; refine (others_any _ _ _ _ _ _ _ _).mono ?_; rintro e w9 ⟨rfl, hg⟩; have hc := bcell hg; have hz := hg.size)))
        go_split_ands
        have hbl : Below w1.heap.size w1 w9 := by assumption
        have C9 := Lib.hid (C8.out.keep hbl)
        go_wp2
        go_roundw
        case rel => exact ⟨rfl, false, _, cn2, rfl, (fun h => by cases h), C9.out⟩
        case measure => rw [C9.out.rng.left_eq, HC.out.rng.left_eq]; exact hlt6
end Go.Proofs.YtgbmmelkagcbdaaDoor
