/- Needs at the sample league. -/
import Derived.Test.YtgbmmelkagcbdaaDoorClin
import Derived.Test.YtgbmmelkagcbdaaDoorTrac
namespace Go.Proofs.YtgbmmelkagcbdaaDoor
open Go.RowKit Go Go.Shelf
attribute [local go_sem] Oper.semAt_some wide_fn wide_depth
/-- What open games can bring. -/
def mostS (pre : List (Nat × Gm)) : Int := pre.foldl (fun s x => if x.2.e = 0 then s + 3 else s) 0
theorem mostS_snoc (pre : List (Nat × Gm)) (x : Nat × Gm) : mostS (pre ++ [x]) = if x.2.e = 0 then mostS pre + 3 else mostS pre := by simp [mostS, List.foldl_append]
theorem mostS_bd (pre : List (Nat × Gm)) : 0 ≤ mostS pre ∧ mostS pre ≤ 3 * pre.length := by
  have key : ∀ q : List (Nat × Gm), 0 ≤ mostS q.reverse ∧ mostS q.reverse ≤ 3 * q.length := by
    intro q
    induction q with
    | nil => exact ⟨by simp [mostS], by simp [mostS]⟩
    | cons x q ih =>
      obtain ⟨i1, i2⟩ := ih
      rw [List.reverse_cons, mostS_snoc, List.length_cons]
      split <;> omega
  have := key pre.reverse
  simpa using this
theorem most_smp : mostS (ofL smp.gs 0) = 6 := by kernel_rfl
/-- What a team needs in one outcome. -/
def valS (t : T6) : Int := if decide (1 ≤ oth t t.1) = true then t.1 - 3 + 1 else 0
theorem out_bd_all : (outK 5).all (fun t => decide (0 ≤ t.1 ∧ t.1 ≤ 9)) = true := by kernel_rfl
theorem out_bd {t : T6} (h : t ∈ outK 5) : 0 ≤ t.1 ∧ t.1 ≤ 9 := by simpa using List.all_eq_true.1 out_bd_all t h
theorem out_val_all : (outK 5).all (fun t => decide (valS t ≤ 4)) = true := by kernel_rfl
theorem out_val {t : T6} (h : t ∈ outK 5) : valS t ≤ 4 := by simpa using List.all_eq_true.1 out_val_all t h
theorem out_val_any : (outK 5).any (fun t => decide (4 ≤ valS t)) = true := by kernel_rfl
theorem out_four : ∃ t, t ∈ outK 5 ∧ 4 ≤ valS t := by simpa using List.any_eq_true.1 out_val_any
theorem val_step {v : Int} {done : T6 → Prop} (h : ∀ t, done t → valS t ≤ v) {t : T6} : ∀ v', v ≤ v' → valS t ≤ v' → ∀ s, (done s ∨ s = t) → valS s ≤ v' := by
  rintro v' h1 h2 s (h3 | rfl)
  · exact Int.le_trans (h s h3) h1
  · exact h2
/-- The world in the loop of Needs. -/
structure Nd (A1 A2 : Option Addr) (c1 c2 : Nat) (w : World) (b D mb r cnt : Nat) (done : T6 → Prop) (W : World) : Prop where
  cl : Cl A1 A2 c1 c2 w b r cnt done W
  most : W.cell? ⟨mb, 0, none⟩ = some (.int .i64 6)
  df : W.heap[D]? = some (.deferred (some []))
  lm : mb < r
  ld : D < r
theorem Nd.keep {A1 A2 : Option Addr} {c1 c2 b D mb r cnt : Nat} {w W W' : World} {done : T6 → Prop} (h : Nd A1 A2 c1 c2 w b D mb r cnt done W) (hb : Below W.heap.size W W') : Nd A1 A2 c1 c2 w b D mb r cnt done W' := by
  have h1 := h.cl.rng.lt
  have h2 := h.lm
  have h3 := h.ld
  exact ⟨h.cl.keep hb, (bcell hb _ _ (by omega)).trans h.most, (hb.block D (by omega)).trans h.df, h.lm, h.ld⟩
theorem Nd.next {A1 A2 : Option Addr} {c1 c2 b D mb r cnt cnt' : Nat} {w W W' : World} {done done' : T6 → Prop} (h : Nd A1 A2 c1 c2 w b D mb r cnt done W) (hg : W.grownBy W' (some r)) (hr : Rng W' b r 16 (· ∈ outK 5) done' cnt') : Nd A1 A2 c1 c2 w b D mb r cnt' done' W' := by
  have h1 := h.cl.rng.lt
  have h2 := h.lm
  have h3 := h.ld
  have hb : Below r W W' := below_rng hg (by omega) (Nat.le_refl _)
  exact ⟨h.cl.next hg hr, (bcell hb _ _ (by omega)).trans h.most, (hb.block D (by omega)).trans h.df, h.lm, h.ld⟩
theorem nd_start {A1 A2 : Option Addr} {c1 c2 b D mb cnt : Nat} {w W w5 w6 : World} {done : T6 → Prop} (hB : Bx A1 A2 c1 c2 smp w w.heap.size w5) (hr : Rng w6 b w5.heap.size 16 (· ∈ outK 5) done cnt) (hm : W.cell? ⟨mb, 0, none⟩ = some (.int .i64 6)) (hD : W.heap[D]? = some (.deferred (some [])))
    (hmb : mb < W.heap.size) (hb : Below W.heap.size W w5) (hg : w5.grownBy w6 none) : Nd A1 A2 c1 c2 w b D mb w5.heap.size cnt done w6 := by
  have hb6 : Below w5.heap.size w5 w6 := ⟨hg.os, hg.tape, hg.output, hg.size, fun k hk => hg.block k hk (by simp)⟩
  have hs := hb.size
  have hDz : D < W.heap.size := (Array.getElem?_eq_some_iff.1 hD).1
  exact ⟨⟨hB.keep hb6, hr, hB.size⟩, (bcell hb6 _ _ (by omega)).trans ((bcell hb _ _ hmb).trans hm), (hb6.block D (by omega)).trans ((hb.block D hDz).trans hD), by omega, by omega⟩
set_option maxRecDepth 100000 in
set_option maxHeartbeats 4000000 in
theorem needs_smp (A1 A2 : Option Addr) (c1 c2 : Nat) (w : World) (hl : LgAt w w.heap.size A1 A2 smp) (hp : Pts w) :
    Calls Tryd.prog 12 #[lgv A1 3 c1 A2 5 c2, .int .i64 0, .int .i64 1] w fun e w' => e = .returned (.tuple #[.int .i64 4, .int .i64 0]) ∧ Below w.heap.size w w' := by
  have S0 := Lib.hid (bx_start c1 c2 hl)
  have HP := Lib.hid hp
  have hw1 := hp.1
  clear hl hp
  refine (callsIn_wide (n := 11)).1 ?_
  refine callsIn_of_wp_marks Tryd.func12 rfl trivial ?_
  simp only [Tryd.ntmps12, List.size_toArray, List.length_cons, List.length_nil, Nat.reduceAdd, Nat.reduceSub, Array.replicate_succ, Array.replicate_zero, List.push_toArray, List.append_toArray, List.nil_append, List.cons_append]
  refine wpIn_wide.2 ?_
  go_wp2_with (first
    | (go_at_call 30; refine (error_any A1 A2 c1 c2 w.heap.size smp 0 1 w _ S0.out smp_league (by decide) (by decide)).mono ?_; rintro e w1 ⟨rfl, hb1⟩; have S1 := Lib.hid (S0.out.keep hb1))
    | (go_at_call 20; refine (rows_any A1 A2 c1 c2 w.heap.size smp w _ S1.out (HP.out.below S1.out.below (by have := HP.out.1; omega)) (good_of smp_league) rfl).mono ?_; rintro e w2 ⟨g, rfl, hg, hra, hb2⟩; have S2 := Lib.hid (S1.out.keep hb2); have HR := Lib.hid hra; have g2 := hra.cells18 2 _ rfl; have hgz : g < w2.heap.size := (Array.getElem?_eq_some_iff.1 hra).1; clear hra)
    | (go_at_call 16; refine (of_any _ _ _).mono ?_; rintro e w3 ⟨rfl, rfl⟩))
  have hM : w.heap.size < w2.heap.size := S2.out.size
  have q2 := S2.out.c1
  have HP2 := Lib.hid (HP.out.below S2.out.below (by omega))
  clear hb1 hb2 hg S0 S1
  obtain ⟨W2, hW2⟩ : ∃ W2, ((w2.alloc (.cells #[.int .i64 0] 3)).alloc (.cells #[.pointer (some ⟨w.heap.size, 0, none⟩)] 47)).alloc (.cells #[.int .i64 0] 3) = W2 := ⟨_, rfl⟩
  have hs2 : W2.heap.size = w2.heap.size + 3 := by rw [← hW2]; simp
  have r1 : W2.cell? ⟨w2.heap.size, 0, none⟩ = some (.int .i64 0) := by rw [← hW2]; simp [go_sem]
  have r3 : W2.cell? ⟨w2.heap.size + 1, 0, none⟩ = some (.pointer (some ⟨w.heap.size, 0, none⟩)) := by rw [← hW2]; simp [go_sem]
  have r4 : W2.cell? ⟨w2.heap.size + 1 + 1, 0, none⟩ = some (.int .i64 0) := by rw [← hW2]; simp [go_sem]
  have f1 : W2.frozen? ⟨w2.heap.size, 0, none⟩ = false := by rw [← hW2]; simp [go_sem]
  have hbw : Below w2.heap.size w2 W2 := by rw [← hW2]; exact (((Below.refl _ _).alloc (Nat.le_refl _) _).alloc (by simp) _).alloc (by simp; omega) _
  have S3 := Lib.hid (S2.out.keep hbw)
  have HP3 := Lib.hid (HP2.out.below hbw (by omega))
  have q2' := S3.out.c1
  simp only [hW2]
  clear hW2 q2 hbw S2 HP2 HR g2
  refine (wpIn_wide (n := 11)).1 ?_
  refine range_box (n := 11) 12 33 (fun x : OfX smp 0 => #[.int .i64 x.1.2.d, .int .i64 x.1.2.h, .int .i64 x.1.2.a, .int .i64 x.1.2.e, .int .i64 x.1.2.hg, .int .i64 x.1.2.ag]) (by omega) (lb := #[.pointer (some ⟨w2.heap.size + 1, 0, none⟩), .pointer (some ⟨w2.heap.size + 1 + 1, 0, none⟩)]) rfl (enters_of Tryd.func39 (by kernel_rfl) rfl)
    (of_stops (w2.heap.size + 1) (w2.heap.size + 1 + 1) w.heap.size (w2.heap.size + 3) w.heap.size c2 A2 smp 0 (fun k => k == w2.heap.size) ⟨by omega, by simp⟩ ⟨by omega, by simp; omega⟩ ⟨by omega, by simp; omega⟩ (by omega) (fun k hk => by simp; omega) (by decide) W2 (by omega) r3 r4 q2' S3.out.at_.gs)
    (fun h k => h.trans k) (fun W l o hl => Keeps.putObj W l o (by omega)) (fun _ => rfl)
    (fun pre W => (W.cell? ⟨w2.heap.size, 0, none⟩ = some (.int .i64 (mostS (pre.map (·.1)))) ∧ W.frozen? ⟨w2.heap.size, 0, none⟩ = false) ∧ Keeps (w2.heap.size + 3) (fun k => k == w2.heap.size) W2 W)
    ?hI ?hKa ?h0 ?hsz ?assign ?body ?done
  case hI =>
    rintro pre A B row ⟨⟨s1, s2⟩, hk⟩ hgr hr
    have ha := hk.size
    have key : ∀ k, k < W2.heap.size → B.heap[k]? = A.heap[k]? := fun k hk' => hgr.block k (by omega) (fun e => by have := (hr k e.symm).1; omega)
    have e1 := key w2.heap.size (by omega)
    refine ⟨⟨?_, ?_⟩, hk.trans ⟨hgr.os, hgr.tape, hgr.output, hgr.size, fun k hk' _ => key k (by omega)⟩⟩
    · exact (World.cell?_of_block (w := A) (a := ⟨w2.heap.size, 0, none⟩) e1).trans s1
    · exact (World.frozen?_of_block (w := A) (a := ⟨w2.heap.size, 0, none⟩) e1).trans s2
  case hKa =>
    rintro pre W o ⟨_, hk⟩
    have ha := hk.size
    exact Keeps.of_below ((Below.refl _ W).alloc (Nat.le_refl _) o) (by omega)
  case h0 => exact ⟨⟨r1, f1⟩, Keeps.refl _ _ _⟩
  case hsz => rintro pre W ⟨_, hk⟩; exact hk.size
  case assign =>
    rintro lp ⟨⟨i, g⟩, hx⟩ W K hK
    simp only [encG]
    simp [roundAct, encG] at hK
    gi_wp2
    exact hK
  case body =>
    rintro lp pre ⟨⟨i, gm⟩, hx1, hx2⟩ Bx W hBx hbox ⟨⟨s1, s2⟩, hk⟩ hlt
    dsimp only at hx1 hx2 hbox
    obtain ⟨m1, m2⟩ := mostS_bd (pre.map (·.1))
    have hsn := mostS_snoc (pre.map (·.1)) (i, gm)
    have h5 : pre.length ≤ 5 := by have : smp.gs.length = 5 := rfl; omega
    have hm15 : mostS (pre.map (·.1)) ≤ 15 := by simp at m2; omega
    have HSN := Lib.hid hsn
    have j0 : W.cell? ⟨0, 0, none⟩ = some (.int .i64 3) := (hk.cell (b := 0) (o := 0) (by omega) (by simp; omega)).trans (HP3.out.2 0 _ rfl)
    have v3 : W.cell? ⟨Bx, 3, none⟩ = some (.int .i64 gm.e) := by simp [World.cell?, hbox]
    have z0 : 0 < W.heap.size := by have := hk.size; omega
    have HK := Lib.hid hk
    obtain ⟨S, hS⟩ : ∃ S, mostS (pre.map (·.1)) = S := ⟨_, rfl⟩
    simp only [hS] at *
    clear hsn hk m2 hbox hS
    simp [encG, roundAct]
    by_cases he : gm.e = 0
    · have he' : (gm.e == 0) = true := by simp [he]
      have HE := Lib.hid he
      clear he
      gi_wp2
      have hkk : Keeps (w2.heap.size + 3) (fun k => k == w2.heap.size) W (W.setCell ⟨w2.heap.size, 0, none⟩ (.int .i64 (S + 3))) := Keeps.setCell _ _ (.inr (by simp))
      exact ⟨(KeepsOthers.setCell _ _ _).from _, hkk, by rw [HSN.out, if_pos HE.out], HK.out.trans hkk⟩
    · have he' : (gm.e == 0) = false := by simp [he]
      have HE := Lib.hid he
      clear he
      gi_wp2
      exact ⟨(others_drewN W 0).from _, Keeps.refl _ _ _, by rw [HSN.out, if_neg HE.out], HK.out⟩
  case done =>
    rintro D ys W hD hys ⟨⟨s1, s2⟩, hk⟩ hDD
    rw [hys, most_smp] at s1
    have hbk : Below w2.heap.size W2 W := ⟨hk.os, hk.tape, hk.output, hk.size, fun k hk' => hk.block k (by omega) (by simp; omega)⟩
    have S4 := Lib.hid (S3.out.keepN hbk hM)
    have HP4 := Lib.hid (HP3.out.below hbk (by omega))
    have hz4 : w2.heap.size < W.heap.size := by have := hk.size; omega
    have hDz : D < W.heap.size := (Array.getElem?_eq_some_iff.1 hDD).1
    have HDD := Lib.hid hDD
    clear hk hys hbk s2 HP3 S3 q2' r1 r3 r4 f1 hDD
    go_wp2_with (first
      | (go_at_call 31; refine (outcomes_smp A1 A2 c1 c2 w.heap.size w _ S4.out HP4.out).mono ?_; rintro e w5 ⟨b, rfl, hT, hb5⟩; have HT := Lib.hid hT; clear hT)
      | (at_range; refine wpList_range_tots _ rfl _ rfl b 16 _ rfl HT.out w5.heap.size rfl ?_; intro w6 cnt hrg hcn hgr hsz))
    go_frame
    have N6 : Hid (Nd A1 A2 c1 c2 w b D w2.heap.size w5.heap.size cnt (fun _ => False) w6) := Lib.hid (nd_start (S4.out.keep hb5) hrg s1 HDD.out hz4 hb5 hgr)
    have hs5 := hb5.size
    clear hrg hcn hgr hsz s1
    go_loopw [13] (fun nv wr => ∃ (v : Int) (done : T6 → Prop) (cnt : Nat), nv = .int .i64 v ∧ 0 ≤ v ∧ v ≤ 4 ∧ (∀ t, done t → valS t ≤ v) ∧ Nd A1 A2 c1 c2 w b D w2.heap.size w5.heap.size cnt done wr) (fun _ wr => wr.rangeLeft b w5.heap.size)
    case atStart => exact ⟨0, _, _, rfl, by omega, by omega, fun _ h => h.elim, N6.out⟩
    case round =>
      obtain ⟨v, done, cn, rfl, v0, v4, hno, hc⟩ := hrel
      have HC := Lib.hid hc
      have HN := Lib.hid hno
      clear hc hno N6
      obtain ⟨wi, hwi⟩ : ∃ wi : World, wi = wr := ⟨_, rfl⟩
      subst hwi
      have m6 := HC.out.most
      have mz := HC.out.lm
      have rz := HC.out.cl.rng.lt
      go_wp2_with (at_next; refine wpList_next_tots _ rfl _ rfl b w5.heap.size _ cn _ done rfl HC.out.cl.rng (fun hc0 hd0 => ?_) (fun t c w6 cn2 hp0 hok0 hnd0 hrg0 hlt6 hgr0 hsz0 hen => ?_); (have HD := Lib.hid hd0; clear hd0 hc0); rotate_left; (have C6 := Lib.hid (HC.out.next hgr0 hrg0); obtain ⟨ta0, ta9⟩ := out_bd hp0; have HP6 := Lib.hid hp0; clear hp0 hok0 hrg0 hgr0 hnd0 hsz0; obtain ⟨ta, tb, tc, td, te, tf⟩ := t; dsimp only at ta0 ta9; dsimp only [tv] at hen; dsimp only [tv]); rotate_left)
      · obtain rfl : v = 4 := by
          obtain ⟨t, h1, h2⟩ := out_four
          have := HN.out t (HD.out t h1)
          omega
        refine ⟨by simp, .inl ⟨_, _, rfl, run_takeDeferred (w := wi) HC.out.df, ?_⟩⟩
        refine ⟨_, results_tmp2 rfl _ _ _, ?_, ?_⟩
        · rfl
        · have hkk := HC.out.cl.bx.below
          refine hkk.trans ⟨rfl, rfl, rfl, by simp, fun k hk => ?_⟩
          rw [World.putObj_heap_other (by omega)]
      · obtain ⟨W0, hW0⟩ : ∃ W0, w6.alloc (.cells #[.int .i64 ta, .int .i64 tb, .int .i64 tc, .int .i64 td, .int .i64 te, .int .i64 tf] 66) = W0 := ⟨_, rfl⟩
        have hbW : Below w6.heap.size w6 W0 := by rw [← hW0]; exact (Below.refl _ _).alloc (Nat.le_refl _) _
        have C7 := Lib.hid (C6.out.keep hbW)
        clear hbW
        have t0 : W0.cell? ⟨w6.heap.size, 0, none⟩ = some (.int .i64 ta) := by rw [← hW0]; simp
        have t1 : W0.cell? ⟨w6.heap.size, 1, none⟩ = some (.int .i64 tb) := by rw [← hW0]; simp
        have t2 : W0.cell? ⟨w6.heap.size, 2, none⟩ = some (.int .i64 tc) := by rw [← hW0]; simp
        have t3 : W0.cell? ⟨w6.heap.size, 3, none⟩ = some (.int .i64 td) := by rw [← hW0]; simp
        have t4 : W0.cell? ⟨w6.heap.size, 4, none⟩ = some (.int .i64 te) := by rw [← hW0]; simp
        have t5 : W0.cell? ⟨w6.heap.size, 5, none⟩ = some (.int .i64 tf) := by rw [← hW0]; simp
        have t6 : W0.cell? ⟨w.heap.size, 0, none⟩ = some (.slice A1 3 c1) := C7.out.cl.bx.c0
        have z0 : w6.heap.size < W0.heap.size := by rw [← hW0]; simp
        have z1 : w.heap.size < W0.heap.size := C7.out.cl.bx.size
        simp only [hW0]
        clear hW0 hen m6 rz
        go_region_held3 (fun w' => (w'.cell? ⟨w6.heap.size, 0, none⟩ = some (.int .i64 ta) ∧ w'.cell? ⟨w6.heap.size, 1, none⟩ = some (.int .i64 tb) ∧ w'.cell? ⟨w6.heap.size, 2, none⟩ = some (.int .i64 tc) ∧ w'.cell? ⟨w6.heap.size, 3, none⟩ = some (.int .i64 td) ∧ w'.cell? ⟨w6.heap.size, 4, none⟩ = some (.int .i64 te) ∧ w'.cell? ⟨w6.heap.size, 5, none⟩ = some (.int .i64 tf) ∧ w'.cell? ⟨w.heap.size, 0, none⟩ = some (.slice A1 3 c1)) ∧ Below W0.heap.size W0 w' ∧ w6.heap.size < w'.heap.size ∧ w.heap.size < w'.heap.size)
          (first | (refine ⟨⟨?_, ?_, ?_, ?_, ?_, ?_, ?_⟩, ?_, ?_, ?_⟩ <;> first | exact (Below.refl _ _).drew | (simp [go_sem, *]; done) | (simp; omega)) | (go_split_ands; refine ⟨⟨?_, ?_, ?_, ?_, ?_, ?_, ?_⟩, ?_, ?_, ?_⟩ <;> first | (rw [hc _ _ (by assumption)]; assumption) | (exact Below.trans (by assumption) (hg.mono (Below.size (by assumption)))) | omega))
          ((first
            | (go_at_call 32; refine (others_any _ _ _ _ _ _ _ _).mono ?_; rintro e w1 ⟨rfl, hg⟩; have hc := bcell hg; have hz := hg.size)))
        go_split_ands
        have hbl : Below W0.heap.size W0 w1 := by assumption
        have C8 := Lib.hid (C7.out.keep hbl)
        have m6 := C8.out.most
        have rz := C8.out.cl.rng.lt
        clear t0 t1 t2 t3 t4 t5 t6 z0 z1 hg hc hz hbl
        have hv : valS (ta, tb, tc, td, te, tf) ≤ 4 := out_val HP6.out
        unfold valS at hv
        have HNV := Lib.hid (val_step HN.out (t := (ta, tb, tc, td, te, tf)))
        unfold valS at HNV
        obtain ⟨ow, how⟩ : ∃ ow, oth (ta, tb, tc, td, te, tf) ta = ow := ⟨_, rfl⟩
        rw [how] at hv HNV
        simp only [how]
        clear how
        by_cases h1 : 1 ≤ ow
        · rw [if_pos (by simpa using h1)] at hv HNV
          go_wp2
          go_roundw
          case rel => exact ⟨max v (ta - 3 + 1), _, cn2, rfl, by omega, by dsimp only at hv; omega, HNV.out _ (by omega) (by show ta - 3 + 1 ≤ _; omega), C8.out⟩
          case measure => rw [C8.out.cl.rng.left_eq, HC.out.cl.rng.left_eq]; exact hlt6
        · rw [if_neg (by simpa using h1)] at hv HNV
          go_wp2
          go_roundw
          case rel => exact ⟨v, _, cn2, rfl, v0, v4, HNV.out v (by omega) v0, C8.out⟩
          case measure => rw [C8.out.cl.rng.left_eq, HC.out.cl.rng.left_eq]; exact hlt6
end Go.Proofs.YtgbmmelkagcbdaaDoor
