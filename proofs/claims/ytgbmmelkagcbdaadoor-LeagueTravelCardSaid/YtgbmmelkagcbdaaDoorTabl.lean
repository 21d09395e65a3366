/- Table at the sample league. -/
import Derived.Test.YtgbmmelkagcbdaaDoorSrtd
import Derived.Test.YtgbmmelkagcbdaaDoorStep
namespace Go.Proofs.YtgbmmelkagcbdaaDoor
open Go.RowKit Go Go.Shelf Go.Sort
theorem mk_more (j : Nat) (w : World) : Calls Tryd.prog 21 #[.func (.func j) #[] #[]] w fun e w' => e = .returned (.func (.func 22) #[] #[.pointer (some ⟨w.heap.size, 0, none⟩)]) ∧ w' = w.alloc (.cells #[.func (.func j) #[] #[]] 55) := by
  go_enter Tryd.func21, Tryd.ntmps21
  go_wp2
  go_returns
  exact ⟨rfl, rfl⟩
theorem rows_len3 : (rowsS smp).length = 3 := by kernel_rfl
theorem info45 : (Tryd.prog.info? 45).map (fun i => (i.zero, i.size, i.bytes)) = some (some (.agg #[.int .i64 0, .int .i64 0, .int .i64 0, .int .i64 0, .int .i64 0]), 5, 40) := by kernel_rfl
def Rw.stand (r : Rw) : List Value := [.int .i64 r.t, .int .i64 r.n, .int .i64 r.p, .int .i64 r.f, .int .i64 r.a]
def scells (R : List Rw) : List Value := R.flatMap Rw.stand
theorem scells_snoc {R : List Rw} {k : Nat} {r : Rw} (h : R[k]? = some r) : scells (R.take (k + 1)) = scells (R.take k) ++ r.stand := by rw [take_snoc h]; simp [scells]
theorem scells_len (R : List Rw) : (scells R).length = R.length * 5 := by
  unfold scells
  induction R with
  | nil => rfl
  | cons g gs ih => rw [List.flatMap_cons, List.length_append, ih, List.length_cons]; simp only [Rw.stand, List.length_cons, List.length_nil]; omega
theorem sorted_len3 : (sortRows (rowsS smp)).length = 3 := by rw [sort_smp]; rfl
theorem RCells.at_ {w : World} {g : Nat} {R : List Rw} (h : RCells w g R) {k : Nat} {r : Rw} (hk : R[k]? = some r) :
    w.cell? ⟨g, k * 6, none⟩ = some (.int .i64 r.t) ∧ w.cell? ⟨g, k * 6 + 1, none⟩ = some (.int .i64 r.n) ∧ w.cell? ⟨g, k * 6 + 2, none⟩ = some (.int .i64 r.p) ∧ w.cell? ⟨g, k * 6 + 3, none⟩ = some (.int .i64 r.f) ∧ w.cell? ⟨g, k * 6 + 4, none⟩ = some (.int .i64 r.a) ∧ w.cell? ⟨g, k * 6 + 5, none⟩ = some (.int .i64 r.m) :=
  ⟨h.2 k r hk 0 (by omega), h.2 k r hk 1 (by omega), h.2 k r hk 2 (by omega), h.2 k r hk 3 (by omega), h.2 k r hk 4 (by omega), h.2 k r hk 5 (by omega)⟩
theorem RCells.keep {w w' : World} {g : Nat} {R : List Rw} (h : RCells w g R) (hb : Below w.heap.size w w') : RCells w' g R :=
  ⟨Nat.lt_of_lt_of_le h.1 hb.size, fun k r hk j hj => (bcell hb g _ h.1).trans (h.2 k r hk j hj)⟩
theorem append_below {base e size n : Nat} {v : Value} {xs : List Value} {a W w' : World} (hgrow : W.grownBy w' v.ownBlock) (hown : W.ownsRow base e size v n xs) (hb : Below base a W) (hB : base ≤ W.heap.size) : Below base a w' :=
  hb.grown hgrow hB (fun q hq => by
    obtain ⟨_, ⟨rfl, _⟩ | ⟨g, cap, cur, rfl, hg, _⟩⟩ := hown
    · cases hq
    · simp only [Value.ownBlock, Option.some.injEq] at hq
      omega)
/-- The cells of a slice of the call's own. -/
theorem own_cells {w : World} {base e size n c g : Nat} {xs : List Value} (h : w.ownsRow base e size (.slice (some ⟨g, 0, none⟩) n c) n xs) : RowAt w w.heap.size (some ⟨g, 0, none⟩) xs := by
  obtain ⟨_, ⟨e, hn⟩ | ⟨g, cap, cur, hv, _, hh, hc, _, hs, ht⟩⟩ := h
  · cases e
  · obtain ⟨rfl, rfl⟩ : g = _ ∧ c = cap := by
      injection hv with h1 _ h2
      injection h1 with h1
      injection h1 with h1
      exact ⟨h1.symm, h2⟩
    refine .inr ⟨_, 0, rfl, (Array.getElem?_eq_some_iff.1 hh).1, fun j u hu => ?_⟩
    rw [← ht, List.getElem?_take] at hu
    split at hu
    · rw [Nat.zero_add]
      simp only [World.cell?, hh]
      simpa using hu
    · cases hu
/-- The table of the sample league. -/
def tableS : List Value := scells [⟨2, 2, 4, 5, 4, 0⟩, ⟨0, 2, 3, 5, 5, 0⟩, ⟨1, 2, 2, 3, 4, 0⟩]
theorem by_five (w2 : World) : ByEl ((((((w2.alloc (Obj.cells #[Value.func (Fn.func 25) #[] #[]] 55)).alloc (Obj.cells #[Value.func (Fn.func 26) #[] #[]] 55)).alloc (Obj.cells #[Value.func (Fn.func 27) #[] #[]] 55)).alloc (Obj.cells #[Value.func (Fn.func 28) #[] #[]] 55)).alloc (Obj.cells #[Value.func (Fn.func 29) #[] #[]] 55)).alloc
      (Obj.cells
        #[Value.func (Fn.func 22) #[] #[Value.pointer (some { block := w2.heap.size, off := 0 })],
          Value.func (Fn.func 22) #[] #[Value.pointer (some { block := w2.heap.size + 1, off := 0 })],
          Value.func (Fn.func 22) #[] #[Value.pointer (some { block := w2.heap.size + 1 + 1, off := 0 })],
          Value.func (Fn.func 22) #[] #[Value.pointer (some { block := w2.heap.size + 1 + 1 + 1, off := 0 })],
          Value.func (Fn.func 22) #[] #[Value.pointer (some { block := w2.heap.size + 1 + 1 + 1 + 1, off := 0 })]]
        56)) (w2.heap.size + 1 + 1 + 1 + 1 + 1) w2.heap.size (w2.heap.size + 1) (w2.heap.size + 1 + 1) (w2.heap.size + 1 + 1 + 1) (w2.heap.size + 1 + 1 + 1 + 1) := by
  constructor <;> simp [go_sem]
set_option maxRecDepth 100000 in
set_option maxHeartbeats 4000000 in
theorem table_walk (A1 A2 : Option Addr) (c1 c2 : Nat) (w : World) (hl : LgAt w w.heap.size A1 A2 smp) (hp : Pts w) :
    Calls Tryd.prog 10 #[lgv A1 3 c1 A2 5 c2] w fun e w' => Below w.heap.size w w' ∧ ∃ g c, e = .returned (.tuple #[.slice (some ⟨g, 0, none⟩) 3 c, .int .i64 0]) ∧ RowAt w' w'.heap.size (some ⟨g, 0, none⟩) tableS := by
  have S0 := Lib.hid (bx_start c1 c2 hl)
  have HP := Lib.hid hp
  clear hl hp
  go_enter Tryd.func10, Tryd.ntmps10
  go_upto_region 3 with (go_at_call 14; refine (isLeague_any _ _ _ _ smp _ (S0.out.at_.more (by simp))).mono ?_; rintro e w1 ⟨rfl, hb1⟩; have S1 := Lib.hid (S0.out.keep hb1); simp only [smp_league])
  go_upto_region 5 with (go_at_call 20; refine (rows_any A1 A2 c1 c2 w.heap.size smp w _ S1.out (HP.out.below S1.out.below (by have := HP.out.1; omega)) (good_of smp_league) rfl).mono ?_; rintro e w2 ⟨g, rfl, hg, hra, hb2⟩; have S2 := Lib.hid (S1.out.keep hb2))
  have HR := Lib.hid hra
  have hg2 : g < w2.heap.size := (Array.getElem?_eq_some_iff.1 hra).1
  clear hra
  go_wp2_with (go_at_call 21; refine (mk_more _ _).mono ?_; rintro e w3 ⟨rfl, rfl⟩)
  have hbe := by_five w2
  generalize hW3 : World.alloc _ _ = W3 at hbe ⊢
  have hb3 : Below w2.heap.size w2 W3 := by rw [← hW3]; go_grown
  have hcon := sorted_any g _ _ _ _ _ _ 3 (rowsS smp) W3 (HR.out.keep hb3) hbe (by omega) (by rw [rows_len3]; omega) sort_smp_size
  rw [rows_len3] at hcon
  have HB3 := Lib.hid hb3
  have hs3 := hb3.size
  clear hbe hb3 hW3
  go_wp2_with (go_at_call 24; refine hcon.mono ?_; rintro e w4 ⟨rfl, hrc, hg4⟩)
  have HRC := Lib.hid hrc
  have hg4' := hrc.1
  have HG4 := Lib.hid hg4
  clear hrc hg4 hcon
  go_loopw [6, 28] (fun o i wr => ∃ k : Nat, k ≤ 3 ∧ i = .int .i64 k ∧ wr.ownsRow w4.heap.size 45 5 o k (scells ((sortRows (rowsS smp)).take k)) ∧ Below w4.heap.size w4 wr) (fun _ i _ => 3 - (intOf i).toNat)
  case atStart => exact ⟨0, by omega, rfl, ⟨by simp [scells], .inl ⟨rfl, rfl⟩⟩, Below.refl _ _⟩
  case round =>
    obtain ⟨k, hk, rfl, how, hbr⟩ := hrel
    have HW := Lib.hid how
    have HBR := Lib.hid hbr
    have hsz := hbr.size
    clear how hbr
    obtain ⟨i0, hi, hz0, hz1, hz2⟩ := info_parts info45
    by_cases hlt : k < 3
    · obtain ⟨r, hr⟩ : ∃ r, (sortRows (rowsS smp))[k]? = some r := ⟨_, List.getElem?_eq_getElem (by rw [sorted_len3]; omega)⟩
      have HSN := Lib.hid (scells_snoc hr)
      obtain ⟨q0, q1, q2, q3, q4, q5⟩ := (HRC.out.keep HBR.out).at_ hr
      have HR2 := Lib.hid hr
      clear hr
      obtain ⟨rt, rn, rp, rf, ra, rm⟩ := r
      dsimp only at *
      have hz : g < wr.heap.size := by omega
      go_wp2_with (at_builtin; refine wpList_append_own _ rfl _ _ 37 rfl w4.heap.size 45 i0 _ 5 40 Tryd.underlying37 hi hz0 hz1 hz2 rfl (by decide) _ _ _ rfl ((HW.out.alloc _).alloc _) ⟨wr.heap.size + 1, 0, none⟩ 1 1 [.int .i64 rt, .int .i64 rn, .int .i64 rp, .int .i64 rf, .int .i64 ra] rfl rfl ?c1 ?c2 ?c3 ?c4 ?c5 ?_)
      case c1 =>
        intro j u hj
        match j, hj with
        | 0, hj => simp at hj; subst hj; simp [Addr.add, go_sem]
        | 1, hj => simp at hj; subst hj; simp [Addr.add, go_sem]
        | 2, hj => simp at hj; subst hj; simp [Addr.add, go_sem]
        | 3, hj => simp at hj; subst hj; simp [Addr.add, go_sem]
        | 4, hj => simp at hj; subst hj; simp [Addr.add, go_sem]
      case c2 => intro u hu; simp at hu; rcases hu with rfl | rfl | rfl | rfl | rfl <;> rfl
      case c3 => unfold maxLen; omega
      case c4 => omega
      case c5 => simp; omega
      intro v' w' hown' hgrow _
      have hb2 := append_below hgrow (((HW.out.alloc _).alloc _)) (((Below.refl _ _).alloc hsz _).alloc (by simp; omega) _) (by simp; omega)
      have HO := Lib.hid hown'
      have HB2 := Lib.hid hb2
      obtain ⟨g', cap', rfl⟩ := ownsRow_succ hown'
      clear hown' hgrow hb2
      go_wp2
      go_roundw
      case rel => exact ⟨k + 1, by omega, by go_num, by rw [HSN.out]; exact HO.out, HBR.out.trans HB2.out⟩
      case measure => simp [intOf]; omega
    · obtain rfl : k = 3 := by omega
      have how := HW.out
      rw [sort_smp] at how
      obtain ⟨g', cap', rfl⟩ := ownsRow_succ how
      have HO := Lib.hid (own_cells how)
      have HB4 := Lib.hid (((S2.out.below.trans (HB3.out.mono (by have := S2.out.below.size; omega))).trans (below_row HG4.out (by have := S2.out.below.size; omega) (by have := S1.out.below.size; omega))).trans (HBR.out.mono (by have := S2.out.below.size; have := HG4.out.size; omega)))
      clear how
      go_wp2
      go_returns
      exact ⟨HB4.out, _, _, rfl, HO.out⟩
end Go.Proofs.YtgbmmelkagcbdaaDoor
