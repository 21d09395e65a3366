/- LeagueTravel of a valid league and a team of it: the contract of its walk. -/
import Derived.Test.YtgbmmelkagcbdaaDoorRest
import Derived.Deep.AppendLies
namespace Go.Proofs.YtgbmmelkagcbdaaDoor
open Go.RowKit Go Go.Shelf
set_option maxRecDepth 100000 in
set_option maxHeartbeats 4000000 in
theorem main_ok (awake_any : AwakeSaid) (A1 A2 : Option Addr) (c1 c2 : Nat) (l : Lg) (t : Int) (w : World) (hp : Pts w) (hl : LgAt w w.heap.size A1 A2 l) (hL : largeB l 4 = false) (h32 : l.gs.length ≤ 32) (hb : leagueB l = true) (ht : 0 ≤ t) (ht2 : t < l.far.length) :
    Calls Tryd.prog 3 #[lgv A1 l.far.length c1 A2 l.gs.length c2, .int .i64 t] w fun e w' => e = .returned (.bool true) ∧ Below w.heap.size w w' := by
  have S0 := Lib.hid (st_start c1 c2 hp hl)
  have HG := Lib.hid (good_of hb)
  have h6 := HG.out.n6
  clear hl hp
  go_enter Tryd.func3, Tryd.ntmps3
  go_wp2_with (first | (go_at_call 4; refine (large_any _ _ _ _ l _ _ (S0.out.at_.far.more (by simp)) (S0.out.at_.gs.more (by simp))).mono ?_; rintro e w1 ⟨rfl, hb1⟩; have S1 := Lib.hid (S0.out.keep hb1); have q1 := S1.out.c0; have q2 := S1.out.c1) | (go_at_call 6; refine (travel_ok _ _ _ _ l _ _ (S1.out.at_.more S1.out.below.size) hb ht ht2).mono ?_; rintro e w2 ⟨rfl, hb2⟩; have S2 := Lib.hid (S1.out.keep hb2); clear q1 q2; have q1 := S2.out.c0; have q2 := S2.out.c1) | (go_at_call 7; refine (valid_any _ _ _ _ l _ (S2.out.at_.more S2.out.below.size) HG.out).mono ?_; rintro e w3 ⟨rfl, hb3⟩; have S3 := Lib.hid (S2.out.keep hb3); clear q1 q2; have q1 := S3.out.c0; have q2 := S3.out.c1))
  have hs3 := S3.out.size
  go_upto_region 8 with fail
  go_cut [7, 8] (fun o e W => ∃ Bo Be, o = .pointer (some ⟨Bo, 0, none⟩) ∧ e = .pointer (some ⟨Be, 0, none⟩) ∧ Two w3 #[.slice A1 l.far.length c1, .slice A2 l.gs.length c2] Bo Be W)
  case first =>
    go_region
    all_goals go_wp2
    all_goals go_meet
    case rel => exact ⟨_, _, rfl, rfl, two_a _ _⟩
    case rel => exact ⟨_, _, rfl, rfl, two_b _ _⟩
  case rest =>
    obtain ⟨Bo, Be, rfl, rfl, hne, hbo, hbe, hbw, ho, he⟩ := hcut
    have S4 := Lib.hid (S3.out.keep hbw)
    have hsc := hbw.size
    clear q1 q2 S3 S2 S1 S0 hb3 hb2 hb1 hbw
    have q1 := S4.out.c0
    have q2 := S4.out.c1
    have o0 : wc.cell? ⟨Bo, 0, none⟩ = some (.slice A1 l.far.length c1) := by simp [World.cell?, ho]
    have o1 : wc.cell? ⟨Bo, 1, none⟩ = some (.slice A2 l.gs.length c2) := by simp [World.cell?, ho]
    have e0 : wc.cell? ⟨Be, 0, none⟩ = some (.slice A1 l.far.length c1) := by simp [World.cell?, he]
    have e1 : wc.cell? ⟨Be, 1, none⟩ = some (.slice A2 l.gs.length c2) := by simp [World.cell?, he]
    have fo : wc.frozen? ⟨Bo, 1, none⟩ = false := by simp [World.frozen?, ho]
    have fe : wc.frozen? ⟨Be, 1, none⟩ = false := by simp [World.frozen?, he]
    have HO := Lib.hid ho
    have HE := Lib.hid he
    clear ho he
    have hne' : ¬ Be = Bo := fun h => hne h.symm
    go_wp2
    go_loopw [9, 10, 11] (fun s p i wr => ∃ (k : Nat) (v : Value), k ≤ l.gs.length ∧ i = .int .i64 k ∧ s = .int .i64 (wayG l.far (0, t) (owns (l.gs.take k) t)).1 ∧ p = .int .i64 (wayG l.far (0, t) (owns (l.gs.take k) t)).2 ∧ LoopSt A1 A2 c1 c2 l t w w3 Bo Be k v wr)
      (fun _ _ i _ => l.gs.length - (intOf i).toNat)
    case atStart =>
      exact ⟨0, .slice none 0 0, Nat.zero_le _, rfl, by simp [wayG, owns], by simp [wayG, owns], loop_start S4.out hs3 hbo hbe hne hsc HO.out HE.out⟩
    case round =>
      obtain ⟨k, v, hk, rfl, rfl, rfl, hst⟩ := hrel
      have HST := Lib.hid hst
      obtain ⟨st, hsz, ho, he, hown, hnil⟩ := hst
      clear q1 q2 o0 o1 e0 e1 fo fe S4 HO HE
      have q1 := st.c0
      have q2 := st.c1
      have HS := Lib.hid st
      have hszw := st.size
      clear st
      have o0 : wr.cell? ⟨Bo, 0, none⟩ = some (.slice A1 l.far.length c1) := by simp [World.cell?, ho]
      have o1 : wr.cell? ⟨Bo, 1, none⟩ = some v := by simp [World.cell?, ho]
      have fo : wr.frozen? ⟨Bo, 1, none⟩ = false := by simp [World.frozen?, ho]
      have HO := Lib.hid ho
      have HE := Lib.hid he
      have HW := Lib.hid hown
      have sBo : Bo < wr.heap.size := (Array.getElem?_eq_some_iff.1 ho).1
      have sBe : Be < wr.heap.size := (Array.getElem?_eq_some_iff.1 he).1
      have E1 : wr.cell? ⟨Be, 1, none⟩ = some (.slice none 0 0) := by simp [World.cell?, he]
      have E2 : wr.frozen? ⟨Be, 1, none⟩ = false := by simp [World.frozen?, he]
      have HE1 := Lib.hid E1
      have HE2 := Lib.hid E2
      clear E1 E2
      have HNIL := Lib.hid hnil
      clear ho he hown hnil
      by_cases hlt : k < l.gs.length
      · obtain ⟨g, hgk⟩ : ∃ g, l.gs[k]? = some g := ⟨_, List.getElem?_eq_getElem hlt⟩
        obtain ⟨b, o, rfl, hb, g1, g2, g3, g4, g5, g6⟩ := HS.out.at_.gs.at_ hgk
        obtain ⟨r1, r2, _, _⟩ := HG.out.game_bd hgk
        have HGK := Lib.hid hgk
        have hsn := owns_snoc l.gs t k g hgk
        have HSN := Lib.hid hsn
        clear hgk hsn
        by_cases hh : hasB g t = true
        · rw [if_pos hh] at HSN
          obtain ⟨x1, x2, x3, x4⟩ := wayG_bd HG.out ht ht2 _ (owns_bd HG.out t k)
          obtain ⟨r, k1, k2, k3, k4, k5⟩ := HG.out.dist_bd x3 x4 r1 r2
          have hle := owns_take_len l.gs t k
          have hway := wayG_snoc l.far (0, t) (owns (l.gs.take k) t) g
          obtain ⟨S, hS⟩ : ∃ S, wayG l.far (0, t) (owns (l.gs.take k) t) = S := ⟨_, rfl⟩
          rw [hS] at x1 x2 x3 x4 k1 k3 k4 k5 hway
          simp only [hS]
          clear hS
          have HWAY := Lib.hid hway
          clear hway
          obtain ⟨S1, S2⟩ := S
          dsimp only at *
          obtain ⟨a, rfl⟩ := Int.eq_ofNat_of_zero_le x3
          obtain ⟨gd, gh, ga, ge, ghg, gag⟩ := g
          dsimp only at *
          obtain ⟨c, rfl⟩ := Int.eq_ofNat_of_zero_le r1
          rw [Int.toNat_natCast] at k1 k3
          obtain ⟨b1, o1', Ai, ci, rfl, hb1', hc1, hri⟩ := HS.out.at_.far.at_ k1
          obtain ⟨b2, o2, rfl, hb2, hc2⟩ := hri.int_at k3
          rw [k2] at hc1
          clear hri k1 k3 x3
          have z1 : b1 < wr.heap.size := by omega
          have z2 : b2 < wr.heap.size := by omega
          have hh2 : (((c : Int) != t) = false) ∨ (((c : Int) != t) = true ∧ (ga != t) = false) := by
            by_cases h : (c : Int) = t
            · exact .inl (by simp [h])
            · refine .inr ⟨by simp [h], ?_⟩
              simp [hasB, h] at hh
              simp [hh]
          obtain ⟨i0, hi, hz0, hz1, hz2⟩ := info_parts info33
          rcases hh2 with q | ⟨q, q'⟩
          · go_wp2
            go_quiet (fail)
            go_wp2_with (at_builtin; refine wpList_append_own _ rfl _ _ 23 rfl w3.heap.size 33 i0 _ 6 48 Tryd.underlying23 hi hz0 hz1 hz2 rfl (by decide) _ _ _ rfl ((HW.out.alloc _).alloc _) ⟨wr.heap.size + 1, 0, none⟩ 1 1 [.int .i64 gd, .int .i64 c, .int .i64 ga, .int .i64 ge, .int .i64 ghg, .int .i64 gag] rfl rfl ?c1 ?c2 ?c3 ?c4 ?c5 ?_)
            case c1 =>
              intro j u hj
              match j, hj with
              | 0, hj => simp at hj; subst hj; simp [Addr.add, go_sem]
              | 1, hj => simp at hj; subst hj; simp [Addr.add, go_sem]
              | 2, hj => simp at hj; subst hj; simp [Addr.add, go_sem]
              | 3, hj => simp at hj; subst hj; simp [Addr.add, go_sem]
              | 4, hj => simp at hj; subst hj; simp [Addr.add, go_sem]
              | 5, hj => simp at hj; subst hj; simp [Addr.add, go_sem]
            case c2 => intro u hu; simp at hu; rcases hu with rfl | rfl | rfl | rfl | rfl | rfl <;> rfl
            case c3 => unfold maxLen; omega
            case c4 => omega
            case c5 => simp; omega
            intro v' w' hown' hgrow _
            obtain ⟨⟨u1, u2⟩, hst'⟩ := loop_step HST.out hs3 hbo hne rfl hown' hgrow HSN.out
            have HST' := Lib.hid hst'
            obtain ⟨g', cap', rfl⟩ := ownsRow_succ hown'
            clear hst' hown' hgrow
            go_wp2
            go_roundw
            case rel => exact ⟨k + 1, _, by omega, by go_num, by rw [HSN.out, HWAY.out], by rw [HSN.out, HWAY.out], HST'.out⟩
            case measure => simp [intOf]; omega
          · go_wp2
            go_quiet (fail)
            go_wp2_with (at_builtin; refine wpList_append_own _ rfl _ _ 23 rfl w3.heap.size 33 i0 _ 6 48 Tryd.underlying23 hi hz0 hz1 hz2 rfl (by decide) _ _ _ rfl ((HW.out.alloc _).alloc _) ⟨wr.heap.size + 1, 0, none⟩ 1 1 [.int .i64 gd, .int .i64 c, .int .i64 ga, .int .i64 ge, .int .i64 ghg, .int .i64 gag] rfl rfl ?d1 ?d2 ?d3 ?d4 ?d5 ?_)
            case d1 =>
              intro j u hj
              match j, hj with
              | 0, hj => simp at hj; subst hj; simp [Addr.add, go_sem]
              | 1, hj => simp at hj; subst hj; simp [Addr.add, go_sem]
              | 2, hj => simp at hj; subst hj; simp [Addr.add, go_sem]
              | 3, hj => simp at hj; subst hj; simp [Addr.add, go_sem]
              | 4, hj => simp at hj; subst hj; simp [Addr.add, go_sem]
              | 5, hj => simp at hj; subst hj; simp [Addr.add, go_sem]
            case d2 => intro u hu; simp at hu; rcases hu with rfl | rfl | rfl | rfl | rfl | rfl <;> rfl
            case d3 => unfold maxLen; omega
            case d4 => omega
            case d5 => simp; omega
            intro v' w' hown' hgrow _
            obtain ⟨⟨u1, u2⟩, hst'⟩ := loop_step HST.out hs3 hbo hne rfl hown' hgrow HSN.out
            have HST' := Lib.hid hst'
            obtain ⟨g', cap', rfl⟩ := ownsRow_succ hown'
            clear hst' hown' hgrow
            go_wp2
            go_roundw
            case rel => exact ⟨k + 1, _, by omega, by go_num, by rw [HSN.out, HWAY.out], by rw [HSN.out, HWAY.out], HST'.out⟩
            case measure => simp [intOf]; omega
        · have hh1 : (g.h != t) = true := by simp [hasB] at hh ⊢; exact hh.1
          have hh2 : (g.a != t) = true := by simp [hasB] at hh ⊢; exact hh.2
          go_wp2
          go_roundw
          case rel =>
            rw [if_neg hh, List.append_nil] at HSN
            exact ⟨k + 1, v, by omega, by go_num, by rw [HSN.out], by rw [HSN.out], loop_skip HST.out hs3 _ HSN.out⟩
          case measure => simp [intOf]; omega
      · have hk' : owns (l.gs.take k) t = owns l.gs t := by rw [List.take_of_length_le (by omega)]
        rw [hk'] at HW HNIL ⊢
        obtain ⟨G, hGG⟩ : ∃ G, owns l.gs t = G := ⟨_, rfl⟩
        have hglen : G.length ≤ 32 := by rw [← hGG]; exact Nat.le_trans (owns_len _ _) h32
        rw [hGG] at HW HNIL hk' ⊢
        have HK := Lib.hid hk'
        have HGG := Lib.hid hGG
        clear hk' hGG
        obtain ⟨i0, hi, hz0, hz1, hz2⟩ := info_parts info33
        go_upto_region 19 with fail
        go_cut [115] (fun u wx => ∃ (Ao Ae : Option Addr) (co ce : Nat), Aft A1 A2 c1 c2 l w Bo Be G Ao Ae co ce wx)
        case first =>
          by_cases hG : G = []
          · obtain rfl := HNIL.out hG
            have e1 := HE1.out
            have e2 := HE2.out
            have HGn := Lib.hid hG
            clear hG
            go_region_held3 (fun w' => w'.cell? ⟨Bo, 1, none⟩ = some (.slice none 0 0)) (go_keep) (fail)
            go_wp2
            go_meet
            rw [HGn.out]
            exact ⟨none, _, 0, 0, aft_nil HST.out hs3 hbe hne⟩
          · obtain ⟨g, cap, hvv, hgl, hnw⟩ := own_form HW.out (by simpa using hG)
            subst hvv
            have e1 := HE1.out
            have e2 := HE2.out
            have hgl' : 0 < G.length := by cases G with | nil => exact absurd rfl hG | cons x y => simp
            have hne1 : some Bo ≠ (Value.slice (some ⟨wr.heap.size, 0, none⟩) 0 0).ownBlock := by intro e; simp only [Value.ownBlock, Option.some.injEq] at e; omega
            have HNW := Lib.hid hnw
            have HNE := Lib.hid hne1
            clear hG hnw hne1
            go_region_held3 (fun w' => w'.cell? ⟨Bo, 1, none⟩ = some (.slice (some ⟨g, 0, none⟩) G.length cap)) (first | go_keep | (rw [hgrow1.cell_far _ (by simp; omega) HNE.out]; assumption) | (rw [hgrow2.cell_far _ (Nat.lt_of_lt_of_le sBo hb1.size) hne2]; assumption))
              (go_loud (first
                | (refine step_append_lies _ ?a1 (.tmp 108) (.tmp 110) 23 ?a2 wr.heap.size 33 i0 _ 6 48 Tryd.underlying23 hi hz0 hz1 hz2 rfl ?a3 (.slice (some ⟨wr.heap.size, 0, none⟩) 0 0) 0 [] ?a4 ?a5 ⟨g, 0, none⟩ G.length cap (gcells G) ?a6 ?a7 ?a8 ?a9 hgl' ?a10 ?a11 ?a12 (wr.heap.size + 1) ?a13 ?_
                   case a1 => rfl
                   case a2 => rfl
                   case a3 => omega
                   case a4 => rfl
                   case a5 => exact own_empty wr
                   case a6 => rfl
                   case a7 => exact gcells_len G
                   case a8 => exact news_behind HNW.out (Nat.le_refl _) (((Below.refl _ _).alloc (Nat.le_refl _) _).drew)
                   case a9 => exact gcells_one G
                   case a10 => (unfold maxLen; omega)
                   case a11 => omega
                   case a12 => simp
                   case a13 => simp
                   intro g1 cap1 w1 hown1 hgrow1 hat1 hlt1
                   simp only [Nat.zero_add, List.nil_append] at hown1 ⊢
                   have hb1 := below_grown (((Below.refl wr.heap.size wr).alloc (Nat.le_refl _) (.cells #[] 33)).drew) hgrow1
                   have hne2 : some Bo ≠ (Value.slice (some ⟨g1, 0, none⟩) G.length cap1).ownBlock := (by intro e; simp only [Value.ownBlock, Option.some.injEq] at e hat1; omega))
                | (refine step_append_lies _ ?a1 (.tmp 111) (.tmp 113) 23 ?a2 wr.heap.size 33 i0 _ 6 48 Tryd.underlying23 hi hz0 hz1 hz2 rfl ?a3 (.slice (some ⟨g1, 0, none⟩) G.length cap1) G.length (gcells G) ?a4 hown1 ⟨g, 0, none⟩ G.length cap (gcells G) ?a6 ?a7 ?a8 ?a9 hgl' ?a10 ?a11 ?a12 w1.heap.size ?a13 ?_
                   case a1 => rfl
                   case a2 => rfl
                   case a3 => omega
                   case a4 => rfl
                   case a6 => rfl
                   case a7 => exact gcells_len G
                   case a8 => exact news_behind HNW.out (Nat.le_refl _) hb1
                   case a9 => exact gcells_one G
                   case a10 => (unfold maxLen; omega)
                   case a11 => omega
                   case a12 => exact hb1.size
                   case a13 => rfl
                   intro g2 cap2 w2' hown2 hgrow2 hat2 hlt2
                   have hb2 : Below wr.heap.size wr w2' := below_grown hb1 hgrow2 hb1.size (by simp only [Value.ownBlock, Option.some.injEq] at hat1; omega)
                   obtain ⟨⟨u1, u2⟩, haft⟩ := aft_own HST.out HK.out hs3 hbe hne hb2 hown2
                   have HAFT := Lib.hid haft
                   clear haft)))
            go_wp2
            go_meet
            exact ⟨_, _, _, _, HAFT.out⟩
        case rest =>
          obtain ⟨Ao, Ae, co, ce, haft⟩ := hcut
          clear q1 q2 o0 o1 fo HO HE HS HW HNIL HST HE1 HE2
          have A0 := Lib.hid haft
          clear haft
          have q1 := A0.out.st.c0
          have q2 := A0.out.st.c1
          have o0 := A0.out.o0
          have o1 := A0.out.o1
          have e0 := A0.out.e0
          have e1 := A0.out.e1
          have HN := Lib.hid (nums_of HGG.out h32 hb ht ht2)
          go_upto_region 21 with (go_at_call 6; refine (rest_own A0.out HGG.out hb ht ht2).mono ?_; rintro e w4 ⟨rfl, hb4⟩; have A4 := Lib.hid (A0.out.keep hb4); clear q1 q2 o0 o1 e0 e1; have q1 := A4.out.st.c0; have q2 := A4.out.st.c1; have o0 := A4.out.o0; have o1 := A4.out.o1; have e0 := A4.out.e0; have e1 := A4.out.e1)
          go_upto_region 22 with (go_at_call 6; refine (rest_two A4.out HGG.out hL h32 hb ht ht2).mono ?_; rintro e w5 ⟨rfl, hb5⟩; have A5 := Lib.hid (A4.out.keep hb5); clear q1 q2 o0 o1 e0 e1; have q1 := A5.out.st.c0; have q2 := A5.out.st.c1; have o0 := A5.out.o0; have o1 := A5.out.o1; have e0 := A5.out.e0; have e1 := A5.out.e1)
          have hs5 := A5.out.st.size
          obtain ⟨n1, n2, n3, n4, n5⟩ := HN.out
          have hnil : G = [] → travel { far := l.far, gs := G ++ G } t = travel l t := by intro h; have := travel_none l t; rw [HGG.out] at this; exact this h
          have hcons : ∀ g L, G = g :: L → travel { far := l.far, gs := G ++ G } t = 2 * travel l t - dist l.far (wayG l.far (0, t) G).2 t - dist l.far t g.h + dist l.far (wayG l.far (0, t) G).2 g.h := by
            intro g L h; have := travel_twice l t g L; rw [HGG.out] at this; exact this h
          have hbd : ∀ g ∈ G, 0 ≤ g.h ∧ g.h < l.far.length := by
            have := owns_bd HG.out t l.gs.length
            rw [List.take_of_length_le (Nat.le_refl _), HGG.out] at this
            exact this
          obtain ⟨r, k1, k2, k3, k4, k5⟩ := HG.out.dist_bd n4 n5 ht ht2
          obtain ⟨K, hK⟩ : ∃ K, travel { far := l.far, gs := G ++ G } t = K := ⟨_, rfl⟩
          obtain ⟨T, hT⟩ : ∃ T, travel l t = T := ⟨_, rfl⟩
          obtain ⟨S, hS⟩ : ∃ S, wayG l.far (0, t) G = S := ⟨_, rfl⟩
          simp only [hK, hT, hS] at n1 n2 n3 n4 n5 hnil hcons k1 k3 k4 k5 ⊢
          clear hK hT hS HN
          obtain ⟨S, P⟩ := S
          dsimp only at n1 n2 n3 n4 n5 hcons k1 k3 k4 k5 ⊢
          have HNI := Lib.hid hnil
          have HCO := Lib.hid hcons
          have HBD := Lib.hid hbd
          clear hnil hcons hbd
          obtain ⟨p, rfl⟩ := Int.eq_ofNat_of_zero_le n4
          obtain ⟨t, rfl⟩ := Int.eq_ofNat_of_zero_le ht
          rw [Int.toNat_natCast] at k1 k3
          obtain ⟨b1, o1', Ai, ci, rfl, hb1', hc1, hri⟩ := A5.out.st.at_.far.at_ k1
          obtain ⟨b2, o2, rfl, hb2, hc2⟩ := hri.int_at k3
          rw [k2] at hc1
          have z1 : b1 < w5.heap.size := by omega
          have z2 : b2 < w5.heap.size := by omega
          have HRI := Lib.hid hri
          have HK1 := Lib.hid k1
          have HK2 := Lib.hid k2
          clear hri k1 k2 k3
          obtain ⟨D, hD⟩ : ∃ D, dist l.far p t = D := ⟨_, rfl⟩
          rw [hD] at n1 k4 k5 hc2 HCO
          clear hD
          subst n1
          by_cases hG : G = []
          · have hKT := HNI.out hG
            subst hKT
            have gl : G.length = 0 := by rw [hG]; rfl
            have HGL := Lib.hid hG
            clear hG
            rw [gl] at o1 e1
            go_wp2_with (go_at_call 5; refine (awake_any _ A5.out.st.pts).mono ?_; rintro e w6 ⟨rfl, hb6⟩)
            go_ret
            exact ⟨rfl, (A5.out.st.keep hb6).below⟩
          · obtain ⟨g0, L, hGL⟩ : ∃ g0 L, G = g0 :: L := by cases G with | nil => exact absurd rfl hG | cons x y => exact ⟨_, _, rfl⟩
            have hKT := HCO.out g0 L hGL
            subst hKT
            obtain ⟨f1, f2⟩ := HBD.out g0 (by rw [hGL]; simp)
            obtain ⟨b3, o3, rfl, hb3', g1, g2, g3, g4, g5, g6⟩ := A5.out.go.at_ (k := 0) (g := g0) (by rw [hGL]; rfl)
            have hgl : 0 < G.length := by rw [hGL]; simp
            have hgl2 : (((G.length : Int)) == 0) = false := by simp; omega
            clear hGL hG
            obtain ⟨gd, gh, ga, ge, ghg, gag⟩ := g0
            dsimp only at *
            obtain ⟨c, rfl⟩ := Int.eq_ofNat_of_zero_le f1
            obtain ⟨r', k1', k2', k3', k4', k5'⟩ := HG.out.dist_bd ht ht2 f1 f2
            obtain ⟨r'', m1, m2, m3, m4, m5⟩ := HG.out.dist_bd n4 n5 f1 f2
            rw [Int.toNat_natCast] at k1' k3' m1 m3
            obtain rfl : r = r'' := by have := HK1.out.symm.trans m1; simpa using this
            obtain ⟨bx, ox, Aj, cj, e0', hb1'', hc1', hri'⟩ := A5.out.st.at_.far.at_ k1'
            obtain ⟨rfl, rfl⟩ : b1 = bx ∧ o1' = ox := by simpa using e0'
            obtain ⟨b4, o4, rfl, hb4', hc4⟩ := hri'.int_at k3'
            rw [k2'] at hc1'
            obtain ⟨by_, oy, e1', hb5', hc5⟩ := HRI.out.int_at m3
            obtain ⟨rfl, rfl⟩ : b2 = by_ ∧ o2 = oy := by simpa using e1'
            clear e0' e1' hri' k1' k2' k3' m1 m2 m3 HCO HBD HNI
            obtain ⟨D1, hD1⟩ : ∃ D, dist l.far t c = D := ⟨_, rfl⟩
            obtain ⟨D2, hD2⟩ : ∃ D, dist l.far p c = D := ⟨_, rfl⟩
            rw [hD1] at hc4 k4' k5'
            rw [hD2] at hc5 m4 m5
            rw [hD1, hD2]
            clear hD1 hD2
            have z3 : b3 < w5.heap.size := by omega
            have z4 : b4 < w5.heap.size := by omega
            go_upto_region 27 with fail
            refine wp_quiet_tail 32 (C := fun w' => ∃ n, w' = w5.drewN n) (by kernel_rfl) (by kernel_rfl) ⟨1, rfl⟩ ?_
            simp only [List.take_succ_cons, List.take_zero, List.drop_succ_cons, List.drop_zero]
            repeat (go_big_quiet_step (fail))
            refine wpQuiet_nil ?_
            rintro _ ⟨m, rfl⟩
            have A6 := Lib.hid (A5.out.keep (below_drewN (Below.refl w5.heap.size w5) m))
            go_wp2_with (go_at_call 5; refine (awake_any _ A6.out.st.pts).mono ?_; rintro e w6 ⟨rfl, hb6⟩)
            go_ret
            exact ⟨rfl, (A6.out.st.keep hb6).below⟩
end Go.Proofs.YtgbmmelkagcbdaaDoor
