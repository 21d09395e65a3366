/- isLeague: the contract of its walk. -/
import Derived.Test.YtgbmmelkagcbdaaDoorLeag
import Derived.Laws.EntriesVeiled
namespace Go.Proofs.YtgbmmelkagcbdaaDoor
open Go.RowKit Go

def rowBad (n : Nat) (l : List Int) : Bool := !(l.length == n) || l.any badB
set_option maxHeartbeats 400000 in
theorem row_bad (A : Option Addr) (c n bn bf : Nat) (l : List Int) (w : World) (hl : l.length ≤ 1000000) (hr : RowAt w w.heap.size A (i64s l))
    (hn : w.cell? ⟨bn, 0, none⟩ = some (.int .i64 (n : Int))) (hf : w.cell? ⟨bf, 0, none⟩ = some (.func (.func 33) #[] #[])) :
    Calls Tryd.prog 35 #[.slice A l.length c, .pointer (some ⟨bn, 0, none⟩), .pointer (some ⟨bf, 0, none⟩)] w fun e w' => e = .returned (.bool (rowBad n l)) ∧ w = w' := by
  have HR := Lib.hid hr
  clear hr
  by_cases hln : l.length = n
  · subst hln
    go_enter Tryd.func35, Tryd.ntmps35
    go_wp2_with (go_at_call 36; refine (contains_any _ _ _ _ hl HR.out).mono ?_; rintro e w' ⟨rfl, rfl⟩)
    go_ret
    exact ⟨ret_bool (by simp [rowBad]), rfl⟩
  · have h2 : ((l.length : Int) != (n : Int)) = true := by rw [bne_iff_ne]; omega
    go_enter Tryd.func35, Tryd.ntmps35
    go_wp2_with (go_at_call 36; refine (contains_any _ _ _ _ hl HR.out).mono ?_; rintro e w' ⟨rfl, rfl⟩)
    go_ret
    exact ⟨ret_bool (by simp [rowBad, hln]), rfl⟩

set_option maxHeartbeats 400000 in
theorem index_rows (A : Option Addr) (c n bn bf : Nat) (far : List (List Int)) (w : World) (hl : far.length ≤ 1000000) (hl2 : ∀ r ∈ far, r.length ≤ 1000000) (hr : FarAt w w.heap.size A far)
    (hn : w.cell? ⟨bn, 0, none⟩ = some (.int .i64 (n : Int))) (hf : w.cell? ⟨bf, 0, none⟩ = some (.func (.func 33) #[] #[])) :
    Calls Tryd.prog 46 #[.slice A far.length c, .func (.func 35) #[] #[.pointer (some ⟨bn, 0, none⟩), .pointer (some ⟨bf, 0, none⟩)]] w fun e w' => e = .returned (.int .i64 (idxP (rowBad n) far)) ∧ w = w' := by
  have HR := Lib.hid hr
  have HL := Lib.hid hl2
  clear hr hl2
  go_enter Tryd.func46, Tryd.ntmps46
  go_wp2
  go_loop [8] (fun i => ∃ k : Nat, k ≤ far.length ∧ i = .int .i64 k ∧ (∀ j y, j < k → far[j]? = some y → rowBad n y = false)) (fun i => far.length - (intOf i).toNat)
  case atStart => exact ⟨0, Nat.zero_le _, rfl, fun j y h => absurd h (by omega)⟩
  case round =>
    obtain ⟨k, hk, rfl, hno⟩ := hrel
    have HN := Lib.hid hno
    clear hno
    by_cases hlt : k < far.length
    · obtain ⟨b, o, Ai, ci, rfl, hb, hc, hri⟩ := HR.out.at_ (List.getElem?_eq_getElem hlt)
      have HRI := Lib.hid hri
      clear hri
      by_cases hp : rowBad n far[k] = true
      · have HP := idxP_some (List.getElem?_eq_getElem hlt) hp HN.out
        have HP' := Lib.hid HP
        clear HP
        go_wp2_with (go_at_call 35; refine (row_bad _ _ n _ _ far[k] _ (HL.out _ (List.getElem_mem hlt)) HRI.out hn hf).mono ?_; rintro e w' ⟨rfl, rfl⟩)
        go_ret
        exact ⟨ret_int HP'.out.symm, rfl⟩
      · have hp' : rowBad n far[k] = false := by simpa using hp
        go_wp2_with (go_at_call 35; refine (row_bad _ _ n _ _ far[k] _ (HL.out _ (List.getElem_mem hlt)) HRI.out hn hf).mono ?_; rintro e w' ⟨rfl, rfl⟩)
        go_round
        case rel =>
          refine ⟨k + 1, by omega, by go_num, fun j y hj hy => ?_⟩
          by_cases h : j < k
          · exact HN.out j y h hy
          · obtain rfl : j = k := by omega
            rw [List.getElem?_eq_getElem hlt] at hy; cases hy; exact hp'
        case measure => simp [intOf]; omega
    · go_wp2
      go_ret
      exact ⟨ret_int (idxP_none (fun j y hy => HN.out j y (by have := (List.getElem?_eq_some_iff.1 hy).1; omega) hy)).symm, rfl⟩
theorem contains_rows (A : Option Addr) (c n bn bf : Nat) (far : List (List Int)) (w : World) (hl : far.length ≤ 1000000) (hl2 : ∀ r ∈ far, r.length ≤ 1000000) (hr : FarAt w w.heap.size A far)
    (hn : w.cell? ⟨bn, 0, none⟩ = some (.int .i64 (n : Int))) (hf : w.cell? ⟨bf, 0, none⟩ = some (.func (.func 33) #[] #[])) :
    Calls Tryd.prog 38 #[.slice A far.length c, .func (.func 35) #[] #[.pointer (some ⟨bn, 0, none⟩), .pointer (some ⟨bf, 0, none⟩)]] w fun e w' => e = .returned (.bool (far.any (rowBad n))) ∧ w = w' := by
  have HR := Lib.hid hr
  have HL := Lib.hid hl2
  clear hr hl2
  go_enter Tryd.func38, Tryd.ntmps38
  go_wp2_with (go_at_call 46; refine (index_rows _ _ n _ _ _ _ hl HL.out HR.out hn hf).mono ?_; rintro e w' ⟨rfl, rfl⟩)
  go_ret
  exact ⟨ret_bool (idxP_any (rowBad n) far), rfl⟩

/-- How many games are open. -/
def openN (gs : List Gm) : Nat := gs.countP fun g => g.e == 0
/-- A league. -/
structure Lg where
  far : List (List Int)
  gs : List Gm
def leagueB (l : Lg) : Bool := decide (l.far.length ≤ 6) && decide (l.gs.length ≤ 64) && l.gs.all (gameB · l.far.length) && !l.far.any (rowBad l.far.length) && decide (openN l.gs ≤ 8)
/-- A league's memory. -/
structure LgAt (w : World) (B : Nat) (A1 A2 : Option Addr) (l : Lg) : Prop where
  far : FarAt w B A1 l.far
  gs : GamesAt w B A2 l.gs
  l1 : l.far.length ≤ 1000000
  l2 : ∀ r ∈ l.far, r.length ≤ 1000000
  l3 : l.gs.length ≤ 1000000
theorem LgAt.below {w w' : World} {B : Nat} {A1 A2 : Option Addr} {l : Lg} (h : LgAt w B A1 A2 l) (hb : Below B w w') : LgAt w' B A1 A2 l := ⟨h.far.below hb, RowAt.below h.gs hb, h.l1, h.l2, h.l3⟩
theorem LgAt.more {w : World} {B B' : Nat} {A1 A2 : Option Addr} {l : Lg} (h : LgAt w B A1 A2 l) (hb : B ≤ B') : LgAt w B' A1 A2 l := ⟨h.far.more hb, RowAt.more h.gs hb, h.l1, h.l2, h.l3⟩
abbrev lgv (A1 : Option Addr) (n1 c1 : Nat) (A2 : Option Addr) (n2 c2 : Nat) : Value := .agg #[.slice A1 n1 c1, .slice A2 n2 c2]
theorem openN_snoc (gs : List Gm) (k : Nat) (h : k < gs.length) : openN (gs.take (k + 1)) = openN (gs.take k) + (if gs[k].e == 0 then 1 else 0) := by
  unfold openN
  rw [List.take_succ_eq_append_getElem h, List.countP_append]
  simp [List.countP_cons]
theorem openN_le (gs : List Gm) (k : Nat) : openN (gs.take k) ≤ k := Nat.le_trans List.countP_le_length (List.length_take_le _ _)

def Own14 (w : World) (A1 : Option Addr) (n1 c1 : Nat) (A2 : Option Addr) (n2 c2 : Nat) (wr : World) : Prop :=
  Below w.heap.size w wr ∧ w.heap.size + 2 < wr.heap.size ∧ wr.cell? ⟨w.heap.size, 0, none⟩ = some (.slice A1 n1 c1) ∧ wr.cell? ⟨w.heap.size, 1, none⟩ = some (.slice A2 n2 c2) ∧
    wr.cell? ⟨w.heap.size + 1, 0, none⟩ = some (.int .i64 (n1 : Int)) ∧ wr.cell? ⟨w.heap.size + 1 + 1, 0, none⟩ = some (.func (.func 33) #[] #[])
theorem Own14.keep {w wr w1 : World} {A1 A2 : Option Addr} {n1 c1 n2 c2 : Nat} (h : Own14 w A1 n1 c1 A2 n2 c2 wr) (hb : Below wr.heap.size wr w1) : Own14 w A1 n1 c1 A2 n2 c2 w1 := by
  obtain ⟨h1, h2, h3, h4, h5, h6⟩ := h
  have hc := bcell hb
  refine ⟨h1.trans (hb.mono h1.size), by have := hb.size; omega, ?_, ?_, ?_, ?_⟩
  · rw [hc _ _ (by omega)]; exact h3
  · rw [hc _ _ (by omega)]; exact h4
  · rw [hc _ _ (by omega)]; exact h5
  · rw [hc _ _ (by omega)]; exact h6
theorem below_box {w w1 : World} {o : Obj} (hb : Below (w.alloc o).heap.size (w.alloc o) w1) : Below w.heap.size w w1 :=
  ((Below.refl _ _).alloc (Nat.le_refl _) _).trans (hb.mono (by simp))
theorem all_snoc {α : Type} {p : α → Bool} {l : List α} {k : Nat} (hlt : k < l.length) (hp : p l[k] = true) (hno : ∀ (j : Nat) (y : α), j < k → l[j]? = some y → p y = true) :
    ∀ (j : Nat) (y : α), j < k + 1 → l[j]? = some y → p y = true := fun j y hj hy => by
  by_cases h : j < k
  · exact hno j y h hy
  · obtain rfl : j = k := by omega
    rw [List.getElem?_eq_getElem hlt] at hy; cases hy; exact hp
theorem all_of {α : Type} {p : α → Bool} {l : List α} (hno : ∀ (j : Nat) (y : α), j < l.length → l[j]? = some y → p y = true) : l.all p = true := by
  rw [List.all_eq_true]
  intro x hx
  obtain ⟨j, hj⟩ := List.mem_iff_getElem?.1 hx
  exact hno j x (List.getElem?_eq_some_iff.1 hj).1 hj

set_option maxHeartbeats 1000000 in
theorem isLeague_any (A1 A2 : Option Addr) (c1 c2 : Nat) (l : Lg) (w : World) (hl : LgAt w w.heap.size A1 A2 l) :
    Calls Tryd.prog 14 #[lgv A1 l.far.length c1 A2 l.gs.length c2] w fun e w' => e = .returned (.bool (leagueB l)) ∧ Below w.heap.size w w' := by
  have HL := Lib.hid hl
  have b1 := hl.l1
  have b3 := hl.l3
  clear hl
  by_cases h6 : l.far.length ≤ 6
  · by_cases h64 : l.gs.length ≤ 64
    · go_enter Tryd.func14, Tryd.ntmps14
      go_wp2
      go_loopw [6, 24] (fun n i wr => ∃ k : Nat, k ≤ l.gs.length ∧ i = .int .i64 k ∧ n = .int .i64 (openN (l.gs.take k) : Nat) ∧ Own14 w A1 l.far.length c1 A2 l.gs.length c2 wr ∧
          (∀ (j : Nat) (y : Gm), j < k → l.gs[j]? = some y → gameB y l.far.length = true)) (fun _ i _ => l.gs.length - (intOf i).toNat)
      case atStart => exact ⟨0, Nat.zero_le _, rfl, by simp [openN], ⟨((Below.refl _ _).alloc (Nat.le_refl _) _ |>.alloc (by simp) _ |>.alloc (by simp; omega) _), by simp, by simp [go_sem], by simp [go_sem], by simp [go_sem], by simp [go_sem]⟩, fun j y h => absurd h (by omega)⟩
      case round =>
        obtain ⟨k, hk, rfl, rfl, hown, hno⟩ := hrel
        have HN := Lib.hid hno
        have HO := Lib.hid hown
        obtain ⟨hbw, hsz, q1, q2, q3, q4⟩ := hown
        have HBW := Lib.hid hbw
        clear hno hbw
        have ho := openN_le l.gs k
        have s0 : w.heap.size < wr.heap.size := by omega
        have s1 : w.heap.size + 1 < wr.heap.size := by omega
        have s2 : w.heap.size + 1 + 1 < wr.heap.size := by omega
        by_cases hlt : k < l.gs.length
        · have hos := openN_snoc l.gs k hlt
          obtain ⟨b, o, rfl, hb, g1, g2, g3, g4, g5, g6⟩ := (HL.out.below HBW.out).gs.at_ (List.getElem?_eq_getElem hlt)
          by_cases hp : gameB l.gs[k] l.far.length = true
          · have HS := Lib.hid (all_snoc hlt hp HN.out)
            by_cases he : l.gs[k].e = 0
            · have he' : (l.gs[k].e == 0) = true := by simpa using he
              rw [he'] at hos
              have HOS := Lib.hid hos
              clear hos he
              go_wp2_with (go_at_call 37; refine (isGame_any _ _ _ _ _ _ _ _ (by omega) (by omega)).mono ?_; rintro e w1 ⟨rfl, hb1⟩; have hc1 := bcell hb1)
              go_roundw
              case rel => exact ⟨k + 1, by omega, by go_num, by rw [HOS.out]; go_num, HO.out.keep (below_box hb1), HS.out⟩
              case measure => simp [intOf]; omega
            · have hos' : openN (l.gs.take (k + 1)) = openN (l.gs.take k) := by rw [hos]; simp [he]
              have HOS := Lib.hid hos'
              clear hos hos'
              go_wp2_with (go_at_call 37; refine (isGame_any _ _ _ _ _ _ _ _ (by omega) (by omega)).mono ?_; rintro e w1 ⟨rfl, hb1⟩; have hc1 := bcell hb1)
              go_roundw
              case rel => exact ⟨k + 1, by omega, by go_num, by rw [HOS.out], HO.out.keep (below_box hb1), HS.out⟩
              case measure => simp [intOf]; omega
          · have hp' : gameB l.gs[k] l.far.length = false := by simpa using hp
            have hfin : leagueB l = false := by
              have : l.gs.all (gameB · l.far.length) = false := by
                rw [List.all_eq_false]
                exact ⟨l.gs[k], List.getElem_mem hlt, hp⟩
              simp [leagueB, this]
            have HF := Lib.hid hfin
            clear hos hfin
            go_wp2_with (go_at_call 37; refine (isGame_any _ _ _ _ _ _ _ _ (by omega) (by omega)).mono ?_; rintro e w1 ⟨rfl, hb1⟩; have hc1 := bcell hb1)
            go_ret
            exact ⟨ret_bool HF.out.symm, (HO.out.keep (below_box hb1)).1⟩
        · have hk' : k = l.gs.length := by omega
          have HK := Lib.hid hk'
          clear hk'
          have hall := all_of (l := l.gs) (fun j y hj hy => HN.out j y (by omega) hy)
          have HA := Lib.hid hall
          clear hall
          go_wp2_with (go_at_call 38; refine (contains_rows _ _ l.far.length _ _ l.far _ (by omega) HL.out.l2 ((HL.out.below HBW.out).far.more (by omega)) q3 q4).mono ?_; rintro e w1 ⟨rfl, rfl⟩)
          all_goals go_ret
          all_goals refine ⟨ret_bool ?_, HBW.out⟩
          all_goals have hk2 : openN (l.gs.take k) = openN l.gs := by rw [HK.out, List.take_length]
          · have hr : ∀ x, x ∈ l.far → rowBad l.far.length x = false := by assumption
            have hr' : l.far.any (rowBad l.far.length) = false := by simpa using hr
            simp only [leagueB, HA.out, hr', hk2]
            simp [h6, h64]
            omega
          · have hr : ¬∀ x, x ∈ l.far → rowBad l.far.length x = false := by assumption
            have hr' : l.far.any (rowBad l.far.length) = true := by simpa using hr
            simp only [leagueB, HA.out, hr']
            simp
    · go_enter Tryd.func14, Tryd.ntmps14
      go_wp2
      go_ret
      exact ⟨ret_bool (by simp [leagueB, h64]), ((Below.refl _ _).alloc (Nat.le_refl _) _ |>.alloc (by simp) _)⟩
  · go_enter Tryd.func14, Tryd.ntmps14
    go_wp2
    go_ret
    exact ⟨ret_bool (by simp [leagueB, h6]), ((Below.refl _ _).alloc (Nat.le_refl _) _ |>.alloc (by simp) _)⟩
end Go.Proofs.YtgbmmelkagcbdaaDoor
