/- icehallref10.Valid, of a valid league: the contract of its walk. -/
import Derived.Test.YtgbmmelkagcbdaaDoorLeah
namespace Go.Proofs.YtgbmmelkagcbdaaDoor
open Go.RowKit Go

theorem quiet_add_left {P : Program} {f : FuncId} {args : Array Value} {w : World} {a n : Nat} {v : Value}
    (h : Calls P f args (w.drewN (a + n)) fun e w' => e = .returned v ∧ w.drewN (a + n) = w') :
    Calls P f args (w.drewN (a + n)) fun e w'' => e = .returned v ∧ ∃ m, w'' = w.drewN (a + m) :=
  h.mono fun _ _ ⟨he, hm⟩ => ⟨he, n, hm.symm⟩
theorem quiet_left {P : Program} {f : FuncId} {args : Array Value} {w : World} {n : Nat} {v : Value}
    (h : Calls P f args (w.drewN n) fun e w' => e = .returned v ∧ w.drewN n = w') : Calls P f args (w.drewN n) fun e w'' => e = .returned v ∧ ∃ m, w'' = w.drewN m :=
  h.mono fun _ _ ⟨he, hm⟩ => ⟨he, n, hm.symm⟩
theorem below_drewN {B : Nat} {a w : World} (h : Below B a w) (n : Nat) : Below B a (w.drewN n) := ⟨h.os, h.tape, h.output, h.size, h.block⟩

/-- What a valid league is. -/
structure Good (l : Lg) : Prop where
  n6 : l.far.length ≤ 6
  g64 : l.gs.length ≤ 64
  game : ∀ (j : Nat) (g : Gm), l.gs[j]? = some g → gameB g l.far.length = true
  row : ∀ (i : Nat) (r : List Int), l.far[i]? = some r → r.length = l.far.length
  ent : ∀ (i k : Nat) (r : List Int) (n : Int), l.far[i]? = some r → r[k]? = some n → inB n 0 100000 = true
  o8 : openN l.gs ≤ 8
theorem good_of {l : Lg} (h : leagueB l = true) : Good l := by
  simp only [leagueB, Bool.and_eq_true, decide_eq_true_eq, List.all_eq_true, Bool.not_eq_true', List.any_eq_false] at h
  obtain ⟨⟨⟨⟨h1, h2⟩, h3⟩, h4⟩, h5⟩ := h
  have key : ∀ (i : Nat) (r : List Int), l.far[i]? = some r → r.length = l.far.length ∧ r.any badB = false := fun i r hr => by
    have := h4 r (List.mem_of_getElem? hr)
    simp only [rowBad, Bool.or_eq_true, not_or, Bool.not_eq_true', Bool.not_eq_false, beq_iff_eq, Bool.not_eq_true] at this
    exact this
  refine ⟨h1, h2, fun j g hg => h3 g (List.mem_of_getElem? hg), fun i r hr => (key i r hr).1, fun i k r n hr hn => ?_, h5⟩
  have := (key i r hr).2
  rw [List.any_eq_false] at this
  have := this n (List.mem_of_getElem? hn)
  simpa [badB] using this

def Own7 (w : World) (A1 : Option Addr) (n1 c1 : Nat) (A2 : Option Addr) (n2 c2 : Nat) (wr : World) : Prop :=
  Below w.heap.size w wr ∧ w.heap.size < wr.heap.size ∧ wr.cell? ⟨w.heap.size, 0, none⟩ = some (.slice A1 n1 c1) ∧ wr.cell? ⟨w.heap.size, 1, none⟩ = some (.slice A2 n2 c2)
theorem Own7.keep {w wr w1 : World} {A1 A2 : Option Addr} {n1 c1 n2 c2 : Nat} (h : Own7 w A1 n1 c1 A2 n2 c2 wr) (hb : Below wr.heap.size wr w1) : Own7 w A1 n1 c1 A2 n2 c2 w1 := by
  obtain ⟨h1, h2, h3, h4⟩ := h
  have hc := bcell hb
  refine ⟨h1.trans (hb.mono h1.size), by have := hb.size; omega, ?_, ?_⟩
  · rw [hc _ _ (by omega)]; exact h3
  · rw [hc _ _ (by omega)]; exact h4
set_option maxHeartbeats 1000000 in
theorem valid_any (A1 A2 : Option Addr) (c1 c2 : Nat) (l : Lg) (w : World) (hl : LgAt w w.heap.size A1 A2 l) (hg : Good l) :
    Calls Tryd.prog 7 #[lgv A1 l.far.length c1 A2 l.gs.length c2] w fun e w' => e = .returned (.bool true) ∧ Below w.heap.size w w' := by
  have HL := Lib.hid hl
  have HG := Lib.hid hg
  have b1 := hg.n6
  have b3 := hg.g64
  have b8 := hg.o8
  clear hl hg
  go_enter Tryd.func7, Tryd.ntmps7
  go_wp2
  go_loopw [4] (fun i wr => ∃ k : Nat, k ≤ l.far.length ∧ i = .int .i64 k ∧ Own7 w A1 l.far.length c1 A2 l.gs.length c2 wr) (fun i _ => l.far.length - (intOf i).toNat)
  case atStart => exact ⟨0, Nat.zero_le _, rfl, ⟨((Below.refl _ _).alloc (Nat.le_refl _) _), by simp, by simp [go_sem], by simp [go_sem]⟩⟩
  case round =>
    obtain ⟨k, hk, rfl, hown⟩ := hrel
    have HO := Lib.hid hown
    obtain ⟨hbw, hsz, q1, q2⟩ := hown
    have HBW := Lib.hid hbw
    clear hbw
    by_cases hlt : k < l.far.length
    · obtain ⟨b, o, Ai, ci, rfl, hb, hc, hri⟩ := (HL.out.below HBW.out).far.at_ (List.getElem?_eq_getElem hlt)
      have hlen := HG.out.row k _ (List.getElem?_eq_getElem hlt)
      rw [hlen] at hc
      clear hri hlen
      have hk6 : decide ((k : Int) ≤ 6) = true := by simp; omega
      go_wp2
      clear hc q1 q2 hsz HBW
      obtain ⟨wo, hwo⟩ : ∃ wo : World, wo = wr := ⟨_, rfl⟩
      subst hwo
      go_loopw [5] (fun i wq => ∃ m : Nat, m ≤ l.far.length ∧ i = .int .i64 m ∧ Own7 w (some ⟨b, o, none⟩) l.far.length c1 A2 l.gs.length c2 wq) (fun i _ => l.far.length - (intOf i).toNat)
      case atStart => exact ⟨0, Nat.zero_le _, rfl, HO.out⟩
      case round =>
        clear HO
        obtain ⟨m, hm, rfl, hown⟩ := hrel
        have HO := Lib.hid hown
        obtain ⟨hbw, hsz, q1, q2⟩ := hown
        have HBW := Lib.hid hbw
        clear hbw
        by_cases hlm : m < l.far.length
        · obtain ⟨r, hr⟩ : ∃ r, l.far[k]? = some r := ⟨_, List.getElem?_eq_getElem hlt⟩
          obtain ⟨b', o', Ai, ci, hA, hb, hc, hri⟩ := (HL.out.below HBW.out).far.at_ hr
          cases hA
          have hlen := HG.out.row k _ hr
          rw [hlen] at hc
          obtain ⟨x, hx⟩ : ∃ x, r[m]? = some x := ⟨_, List.getElem?_eq_getElem (by omega)⟩
          obtain ⟨b2, o2, rfl, hb2, hn⟩ := hri.int_at hx
          have hin := HG.out.ent k m _ _ hr hx
          clear hri hlen hr hx
          go_wp2_with (go_at_call 17; refine (in_any _ _ _ _).mono ?_; rintro e w' ⟨rfl, rfl⟩)
          go_roundw
          case rel => exact ⟨m + 1, by omega, by go_num, HO.out⟩
          case measure => simp [intOf]; omega
        · go_wp2
          go_roundw
          case rel => exact ⟨k + 1, by omega, by go_num, HO.out⟩
          case measure => simp [intOf]; omega
    · go_wp2
      go_loopw [6, 7] (fun n i wr => ∃ k : Nat, k ≤ l.gs.length ∧ i = .int .i64 k ∧ n = .int .i64 (openN (l.gs.take k) : Nat) ∧ Own7 w A1 l.far.length c1 A2 l.gs.length c2 wr) (fun _ i _ => l.gs.length - (intOf i).toNat)
      case atStart => exact ⟨0, Nat.zero_le _, rfl, by simp [openN], HO.out⟩
      case round =>
        clear HO HBW q1 q2 hsz
        obtain ⟨j, hj, rfl, rfl, hown⟩ := hrel
        have HO := Lib.hid hown
        obtain ⟨hbw, hsz, q1, q2⟩ := hown
        have HBW := Lib.hid hbw
        clear hbw
        have ho := openN_le l.gs j
        by_cases hlj : j < l.gs.length
        · have hos := openN_snoc l.gs j hlj
          have hp := HG.out.game j _ (List.getElem?_eq_getElem hlj)
          by_cases he : l.gs[j].e = 0
          · have he' : (l.gs[j].e == 0) = true := by simpa using he
            rw [he'] at hos
            have HOS := Lib.hid hos
            clear hos he
            obtain ⟨g, hg⟩ : ∃ g, g = l.gs[j] := ⟨_, rfl⟩
            obtain ⟨b, o, rfl, hb, g1, g2, g3, g4, g5, g6⟩ := (HL.out.below HBW.out).gs.at_ (show l.gs[j]? = some g by rw [hg]; exact List.getElem?_eq_getElem hlj)
            rw [← hg] at hp he'
            clear hg
            have hbr : b < wr.heap.size := by omega
            go_wp2_with (go_at_call 18; refine (game_any _ _ _ _ _ _ _ _ (by omega) (by omega)).mono ?_; rintro e w1 ⟨rfl, hb1⟩; have hc1 := bcell hb1)
            go_roundw
            case rel => exact ⟨j + 1, by omega, by go_num, by rw [HOS.out]; go_num, HO.out.keep hb1⟩
            case measure => simp [intOf]; omega
          · have hos' : openN (l.gs.take (j + 1)) = openN (l.gs.take j) := by rw [hos]; simp [he]
            have he' : (l.gs[j].e == 0) = false := by simpa using he
            have HOS := Lib.hid hos'
            clear hos hos' he
            obtain ⟨g, hg⟩ : ∃ g, g = l.gs[j] := ⟨_, rfl⟩
            obtain ⟨b, o, rfl, hb, g1, g2, g3, g4, g5, g6⟩ := (HL.out.below HBW.out).gs.at_ (show l.gs[j]? = some g by rw [hg]; exact List.getElem?_eq_getElem hlj)
            rw [← hg] at hp he'
            clear hg
            have hbr : b < wr.heap.size := by omega
            go_wp2_with (go_at_call 18; refine (game_any _ _ _ _ _ _ _ _ (by omega) (by omega)).mono ?_; rintro e w1 ⟨rfl, hb1⟩; have hc1 := bcell hb1)
            go_roundw
            case rel => exact ⟨j + 1, by omega, by go_num, by rw [HOS.out], HO.out.keep hb1⟩
            case measure => simp [intOf]; omega
        · have hk2 : openN (l.gs.take j) = openN l.gs := by rw [List.take_of_length_le (by omega)]
          rw [hk2]
          clear hk2
          go_wp2
          go_ret
          exact ⟨ret_bool (by simp; omega), HBW.out⟩
end Go.Proofs.YtgbmmelkagcbdaaDoor
