/- icehalllaw10.large: the contract of its walk. -/
import Derived.Test.YtgbmmelkagcbdaaDoorTrac
namespace Go.Proofs.YtgbmmelkagcbdaaDoor
open Go.RowKit Go Go.Shelf

def wide9 (r : List Int) : Bool := decide (9 < r.length)
def largeB (l : Lg) (m : Int) : Bool := decide (9 < l.far.length) || decide (68 < l.gs.length) || l.far.any wide9 || (decide (m < (openN l.gs : Int)) && decide (openN l.gs ≤ 8))
set_option maxHeartbeats 1000000 in
theorem large_any (A1 A2 : Option Addr) (c1 c2 : Nat) (l : Lg) (m : Int) (w : World) (hF : FarAt w w.heap.size A1 l.far) (hG : GamesAt w w.heap.size A2 l.gs) :
    Calls Tryd.prog 4 #[lgv A1 l.far.length c1 A2 l.gs.length c2, .int .i64 m] w fun e w' => e = .returned (.bool (largeB l m)) ∧ Below w.heap.size w w' := by
  have hb0 : Below w.heap.size w (w.alloc (.cells #[.slice A1 l.far.length c1, .slice A2 l.gs.length c2] 25)) := (Below.refl _ _).alloc (Nat.le_refl _) _
  have HF := Lib.hid (hF.below hb0)
  have HG : Hid (GamesAt _ w.heap.size A2 l.gs) := Lib.hid (RowAt.below hG hb0)
  have HB0 := Lib.hid hb0
  clear hF hG hb0
  by_cases h9 : l.far.length ≤ 9
  · by_cases h68 : l.gs.length ≤ 68
    · go_enter Tryd.func4, Tryd.ntmps4
      go_wp2
      go_loop [5] (fun i => ∃ k : Nat, k ≤ l.far.length ∧ i = .int .i64 k ∧ (∀ (j : Nat) (y : List Int), j < k → l.far[j]? = some y → wide9 y = false)) (fun i => l.far.length - (intOf i).toNat)
      case atStart => exact ⟨0, Nat.zero_le _, rfl, fun j y h => absurd h (by omega)⟩
      case round =>
        obtain ⟨k, hk, rfl, hno⟩ := hrel
        have HN := Lib.hid hno
        clear hno
        by_cases hlt : k < l.far.length
        · obtain ⟨r, hr⟩ : ∃ r, l.far[k]? = some r := ⟨_, List.getElem?_eq_getElem hlt⟩
          have HR := Lib.hid hr
          obtain ⟨b, o, Ai, ci, rfl, hb, hc, hri⟩ := HF.out.at_ hr
          clear hr hri
          by_cases hw : r.length ≤ 9
          · have hw' : wide9 r = false := by simp [wide9]; omega
            have HW := Lib.hid hw'
            clear hw'
            go_wp2
            go_round
            case rel =>
              refine ⟨k + 1, by omega, by go_num, fun j y hj hy => ?_⟩
              by_cases h : j < k
              · exact HN.out j y h hy
              · obtain rfl : j = k := by omega
                rw [HR.out] at hy; cases hy; exact HW.out
            case measure => simp [intOf]; omega
          · have hw' : l.far.any wide9 = true := List.any_eq_true.2 ⟨r, List.mem_of_getElem? HR.out, by simp [wide9]; omega⟩
            have HW := Lib.hid hw'
            clear hw'
            go_wp2
            go_ret
            exact ⟨ret_bool (by simp [largeB, HW.out]), HB0.out⟩
        · have hall : l.far.any wide9 = false := by
            rw [List.any_eq_false]
            intro x hx
            obtain ⟨j, hj⟩ := List.mem_iff_getElem?.1 hx
            rw [HN.out j x (by have := (List.getElem?_eq_some_iff.1 hj).1; omega) hj]
            simp
          have HA := Lib.hid hall
          clear hall
          go_wp2
          go_loop [6, 7] (fun n i => ∃ k : Nat, k ≤ l.gs.length ∧ i = .int .i64 k ∧ n = .int .i64 (openN (l.gs.take k) : Nat)) (fun _ i => l.gs.length - (intOf i).toNat)
          case atStart => exact ⟨0, Nat.zero_le _, rfl, by simp [openN]⟩
          case round =>
            obtain ⟨j, hj, rfl, rfl⟩ := hrel
            have ho := openN_le l.gs j
            by_cases hlj : j < l.gs.length
            · have hos := openN_snoc l.gs j hlj
              obtain ⟨g, hg⟩ : ∃ g, g = l.gs[j] := ⟨_, rfl⟩
              rw [← hg] at hos
              obtain ⟨b, o, rfl, hb, g1, g2, g3, g4, g5, g6⟩ := HG.out.at_ (show l.gs[j]? = some g by rw [hg]; exact List.getElem?_eq_getElem hlj)
              clear hg g1 g2 g3 g5 g6
              by_cases he : g.e = 0
              · have he' : (g.e == 0) = true := by simpa using he
                rw [he'] at hos
                have HOS := Lib.hid hos
                clear hos he
                go_wp2
                go_round
                case rel => exact ⟨j + 1, by omega, by go_num, by rw [HOS.out]; go_num⟩
                case measure => simp [intOf]; omega
              · have he' : (g.e == 0) = false := by simpa using he
                rw [he'] at hos
                have HOS := Lib.hid hos
                clear hos he
                go_wp2
                go_round
                case rel => exact ⟨j + 1, by omega, by go_num, by rw [HOS.out]; go_num⟩
                case measure => simp [intOf]; omega
            · have hk2 : openN (l.gs.take j) = openN l.gs := by rw [List.take_of_length_le (by omega)]
              have HK2 := Lib.hid hk2
              clear hk2
              go_wp2
              all_goals go_ret
              all_goals refine ⟨ret_bool ?_, HB0.out⟩
              all_goals simp only [largeB, HA.out, ← HK2.out]
              all_goals have x1 : decide (9 < l.far.length) = false := by simp; omega
              all_goals have x2 : decide (68 < l.gs.length) = false := by simp; omega
              all_goals simp only [x1, x2, Bool.false_or]
              all_goals simp [*]
              all_goals omega
    · go_enter Tryd.func4, Tryd.ntmps4
      go_wp2
      go_ret
      exact ⟨ret_bool (by simp [largeB]; omega), HB0.out⟩
  · go_enter Tryd.func4, Tryd.ntmps4
    go_wp2
    go_ret
    exact ⟨ret_bool (by simp [largeB]; omega), HB0.out⟩
theorem small_of {l : Lg} {m : Int} (h : largeB l m = false) : l.far.length ≤ 9 ∧ l.gs.length ≤ 68 ∧ (∀ r ∈ l.far, r.length ≤ 9) := by
  simp only [largeB, Bool.or_eq_false_iff, decide_eq_false_iff_not, List.any_eq_false] at h
  obtain ⟨⟨⟨h1, h2⟩, h3⟩, _⟩ := h
  refine ⟨by omega, by omega, fun r hr => ?_⟩
  have := h3 r hr
  simp [wide9] at this
  omega
end Go.Proofs.YtgbmmelkagcbdaaDoor
