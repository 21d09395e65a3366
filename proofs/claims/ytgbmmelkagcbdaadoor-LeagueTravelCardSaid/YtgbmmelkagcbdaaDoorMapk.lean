/- Sets of totals: maps keyed by six whole numbers. Plain lemmas: no condition. -/
import Derived.Test.YtgbmmelkagcbdaaDoorRwsb
import Derived.Maps.RangeWalk
import Derived.Maps.OwnSet
import Derived.DeepKeys4
import Derived.Maps.Ext
namespace Go.Proofs.YtgbmmelkagcbdaaDoor
open Go.RowKit Go Go.Shelf
theorem laid10 : Go.laidOutB Tryd.prog = true := by kernel_rfl
theorem under66 : Tryd.prog.underlying 66 = some (.array 6 3) := by kernel_rfl
theorem row66 : (66 : TypeId) < Tryd.prog.types.size := of_decide_eq_true (by kernel_rfl)
theorem kta66 : Tryd.prog.keyTypeAt 2 66 = true := by kernel_rfl
theorem keyed66 : Maps.Keyed Tryd.prog 66 := Maps.Keyed.of_law (deep_law_laid laid10 (m := 2) (by omega) row66 kta66 (by rw [under66]))
theorem under63 : Tryd.prog.underlying 63 = some (.map 66 4) := by kernel_rfl
theorem under4' : Tryd.prog.underlying 4 = some .bool := by kernel_rfl
theorem under3' : Tryd.prog.underlying 3 = some (.int .i64) := by kernel_rfl
theorem keyT66 : Tryd.prog.keyType 66 = true := by kernel_rfl
theorem types10 : Tryd.prog.types.size = 124 := by kernel_rfl
theorem cells66 : Tryd.prog.cellsOf 66 = 6 := by kernel_rfl
theorem cells3' : Tryd.prog.cellsOf 3 = 1 := by kernel_rfl
abbrev T6 := Int × Int × Int × Int × Int × Int
def tv (t : T6) : Value := .agg #[.int .i64 t.1, .int .i64 t.2.1, .int .i64 t.2.2.1, .int .i64 t.2.2.2.1, .int .i64 t.2.2.2.2.1, .int .i64 t.2.2.2.2.2]
def okI (n : Int) : Bool := (Lit.int .i64 n).wf
def okT (t : T6) : Bool := okI t.1 && okI t.2.1 && okI t.2.2.1 && okI t.2.2.2.1 && okI t.2.2.2.2.1 && okI t.2.2.2.2.2
def kT (t : T6) : Lit := .string (keyBytes [.int .i64 t.1, .int .i64 t.2.1, .int .i64 t.2.2.1, .int .i64 t.2.2.2.1, .int .i64 t.2.2.2.2.1, .int .i64 t.2.2.2.2.2])
theorem key_mk {t : T6} (h : okT t = true) : keyOf Tryd.prog 66 (tv t) = some (kT t) := by
  obtain ⟨a, b, c, d, e, f⟩ := t
  simp only [okT, okI, Bool.and_eq_true] at h
  obtain ⟨⟨⟨⟨⟨h1, h2⟩, h3⟩, h4⟩, h5⟩, h6⟩ := h
  have e3 : ∀ (x : Int), (Lit.int .i64 x).wf = true → Tryd.prog.keyLits 124 3 [.int .i64 x] = some [.int .i64 x] := fun x hx => by
    unfold Program.keyLits
    simp [hx]
  have e66 : Tryd.prog.keyLits 125 66 (Value.agg #[.int .i64 a, .int .i64 b, .int .i64 c, .int .i64 d, .int .i64 e, .int .i64 f]).cells.toList = some [.int .i64 a, .int .i64 b, .int .i64 c, .int .i64 d, .int .i64 e, .int .i64 f] := by
    unfold Program.keyLits
    simp [Value.cells, cells66, cells3', List.range, List.range.loop, e3, h1, h2, h3, h4, h5, h6]
  have ef : (Value.agg #[.int .i64 a, .int .i64 b, .int .i64 c, .int .i64 d, .int .i64 e, .int .i64 f]).formed Tryd.prog 66 = true := by simp [Value.formed, cells66]
  unfold keyOf
  rw [under66]
  simp only [tv, kT, keyT66, ef, Bool.and_self, if_true]
  rw [types10, e66]
  rfl
theorem key_lit {t : T6} (h : okT t = true) : WideAt.IsKeyLit (kT t) := keyed66.key (key_mk h)
theorem tv_inj {t s : T6} (h : tv t = tv s) : t = s := by
  obtain ⟨a, b, c, d, e, f⟩ := t
  obtain ⟨a', b', c', d', e', f'⟩ := s
  simp only [tv, Value.agg.injEq, Array.mk.injEq, List.cons.injEq, Value.int.injEq, true_and, and_true] at h
  obtain ⟨rfl, rfl, rfl, rfl, rfl, rfl⟩ := h
  rfl
theorem kT_inj {t s : T6} (ht : okT t = true) (hs : okT s = true) (h : kT t = kT s) : t = s :=
  tv_inj (keyed66.inj (key_mk ht) (h ▸ key_mk hs))
/-- What the map holds. -/
def SetIs (D : DataW Unit) (p : T6 → Prop) : Prop := (∀ k, Maps.has D k = true ↔ ∃ t, p t ∧ kT t = k) ∧ ∀ t, p t → okT t = true
theorem SetIs.empty : SetIs (.map []) (fun _ => False) := ⟨fun k => ⟨fun h => by simp [Maps.has] at h, fun ⟨_, h, _⟩ => h.elim⟩, fun _ h => h.elim⟩
theorem SetIs.congr {D : DataW Unit} {p q : T6 → Prop} (h : SetIs D p) (e : ∀ t, p t ↔ q t) : SetIs D q :=
  ⟨fun k => (h.1 k).trans ⟨fun ⟨t, a, b⟩ => ⟨t, (e t).1 a, b⟩, fun ⟨t, a, b⟩ => ⟨t, (e t).2 a, b⟩⟩, fun t ht => h.2 t ((e t).2 ht)⟩
theorem SetIs.put {D : DataW Unit} {p : T6 → Prop} (h : SetIs D p) (hm : Maps.IsMap D) {t : T6} (ht : okT t = true) (d : DataW Unit) : SetIs (D.put (kT t) d) (fun s => p s ∨ s = t) := by
  refine ⟨fun k => ?_, fun s hs => hs.elim (h.2 s) (fun e => e ▸ ht)⟩
  by_cases e : k = kT t
  · subst e
    exact ⟨fun _ => ⟨t, .inr rfl, rfl⟩, fun _ => Maps.has_put_same hm (key_lit ht) d⟩
  · rw [Maps.has_put_other e, h.1 k]
    exact ⟨fun ⟨s, a, b⟩ => ⟨s, .inl a, b⟩, fun ⟨s, a, b⟩ => a.elim (fun a => ⟨s, a, b⟩) (fun a => absurd (a ▸ b).symm e)⟩
/-- A map whose keys are these totals. -/
def Tots (w : World) (b n : Nat) (p : T6 → Prop) : Prop := ∃ D : DataW Unit, w.ownsMap Tryd.prog 66 (plainElem Tryd.prog 4) b n D ∧ SetIs D p
/-- Such a map, ranged over: which have come, how many are to come. -/
def Rng (w : World) (b r n : Nat) (p done : T6 → Prop) (cnt : Nat) : Prop := ∃ (D : DataW Unit) (left : Lit → Bool), w.ranges Tryd.prog 66 (plainElem Tryd.prog 4) b r n D left cnt ∧ SetIs D p ∧ ∀ t, p t → (left (kT t) = false ↔ done t)
theorem Tots.made (w : World) : Tots (w.alloc (.map #[] 0)) w.heap.size 0 (fun _ => False) := ⟨_, World.ownsMap_made w _ _ _, SetIs.empty⟩
theorem Tots.kept {w w' : World} {b n : Nat} {p : T6 → Prop} {row : Option Nat} (h : Tots w b n p) (hg : w.grownBy w' row) (hne : some b ≠ row) : Tots w' b n p := by
  obtain ⟨D, a, c⟩ := h
  exact ⟨D, a.kept hg hne, c⟩
theorem Tots.mono {w : World} {b n m : Nat} {p : T6 → Prop} (h : Tots w b n p) (hn : n ≤ m) : Tots w b m p := by
  obtain ⟨D, a, c⟩ := h
  exact ⟨D, a.mono hn, c⟩
theorem Tots.congr {w : World} {b n : Nat} {p q : T6 → Prop} (h : Tots w b n p) (e : ∀ t, p t ↔ q t) : Tots w b n q := by
  obtain ⟨D, a, c⟩ := h
  exact ⟨D, a, c.congr e⟩
theorem Tots.lt {w : World} {b n : Nat} {p : T6 → Prop} (h : Tots w b n p) : b < w.heap.size := by
  obtain ⟨D, a, _⟩ := h
  exact a.lt
theorem Rng.left_eq {w : World} {b r n cnt : Nat} {p done : T6 → Prop} (h : Rng w b r n p done cnt) : w.rangeLeft b r = cnt := by
  obtain ⟨D, left, a, _⟩ := h
  exact a.left_eq
theorem Rng.lt {w : World} {b r n cnt : Nat} {p done : T6 → Prop} (h : Rng w b r n p done cnt) : r < w.heap.size := by
  obtain ⟨D, left, a, _⟩ := h
  exact a.lt
theorem Rng.tots {w : World} {b r n cnt : Nat} {p done : T6 → Prop} (h : Rng w b r n p done cnt) : Tots w b n p := by
  obtain ⟨D, left, a, c, _⟩ := h
  exact ⟨D, a.owns, c⟩
theorem Rng.kept {w w' : World} {b r n cnt : Nat} {p done : T6 → Prop} {row : Option Nat} (h : Rng w b r n p done cnt) (hg : w.grownBy w' row) (hb : some b ≠ row) (hr : some r ≠ row) : Rng w' b r n p done cnt := by
  obtain ⟨D, left, a, c, d⟩ := h
  exact ⟨D, left, a.kept hg hb hr, c, d⟩
theorem Rng.congr {w : World} {b r n cnt : Nat} {p done done' : T6 → Prop} (h : Rng w b r n p done cnt) (e : ∀ t, done t ↔ done' t) : Rng w b r n p done' cnt := by
  obtain ⟨D, left, a, c, d⟩ := h
  exact ⟨D, left, a, c, fun t ht => (d t ht).trans (e t)⟩
theorem six_of {α : Type} {l : List α} (h : l.length = 6) : ∃ a b c d e f, l = [a, b, c, d, e, f] := by
  match l, h with
  | [a, b, c, d, e, f], _ => exact ⟨a, b, c, d, e, f, rfl⟩
theorem key_inv {key : Value} {kl : Lit} (h : keyOf Tryd.prog 66 key = some kl) : ∃ t, key = tv t := by
  unfold keyOf at h
  rw [under66] at h
  simp only [keyT66, Bool.true_and] at h
  split at h
  · rename_i hf
    cases key <;> simp [Value.formed] at hf
    rename_i cs
    rw [types10, cells66] at *
    obtain ⟨l⟩ := cs
    have hl : l.length = 6 := by simpa using hf
    have e3 : ∀ (v : Value) (r : List Lit), Tryd.prog.keyLits 124 3 [v] = some r → ∃ x, v = .int .i64 x := fun v r hv => by
      unfold Program.keyLits at hv
      rw [under3'] at hv
      cases v <;> simp at hv
      exact ⟨_, by rw [hv.1.1]⟩
    obtain ⟨a, b, c, d, e, f, rfl⟩ := six_of hl
    · rw [show (124 + 1 : Nat) = 125 from rfl] at h
      unfold Program.keyLits at h
      rw [under66] at h
      simp only [Value.cells, cells66, cells3', List.range, List.range.loop] at h
      simp [List.mapM_cons, Option.bind_eq_some_iff] at h
      obtain ⟨_, ha, _, ⟨_, hb, _, ⟨_, hc, _, ⟨_, hd, _, ⟨_, he, _, ⟨_, hff, _⟩, _⟩, _⟩, _⟩, _⟩, _⟩ := h
      obtain ⟨_, rfl⟩ := e3 _ _ ha
      obtain ⟨_, rfl⟩ := e3 _ _ hb
      obtain ⟨_, rfl⟩ := e3 _ _ hc
      obtain ⟨_, rfl⟩ := e3 _ _ hd
      obtain ⟨_, rfl⟩ := e3 _ _ he
      obtain ⟨_, rfl⟩ := e3 _ _ hff
      exact ⟨(_, _, _, _, _, _), rfl⟩
  · simp at h
section
variable (w : World) {ops : Array Oper} {rest : List Oper} {o : Oper} {a : Act} {Q : Exit → Act → World → Prop}
theorem wpList_range_tots (hg : o.guard = none) (m : Operand) (hop : o.op = Op.range 63 m) (b n : Nat) (p : T6 → Prop) (hm : a.eval m = .map (some b)) (h : Tots w b n p) (r : Nat) (hr : w.heap.size = r)
    (hK : ∀ w' cnt, Rng w' b r n p (fun _ => False) cnt → cnt ≤ n → w.grownBy w' none → w'.heap.size = r + 1 → wpList Tryd.prog ops Q rest (a.put o.dst (.pointer (some ⟨r, 0, none⟩))) w') :
    wpList Tryd.prog ops Q (o :: rest) a w := by
  subst hr
  obtain ⟨D, hD, hs⟩ := h
  refine wpList_range_own w hg m 63 hop 66 4 keyed66 under63 _ b n D hm hD (fun w' h1 h2 h3 => hK w' _ ⟨D, _, h1, hs, fun t ht => ?_⟩ hD.size_le h2 h3)
  have := (hs.1 (kT t)).2 ⟨t, ht, rfl⟩
  simp [this]
theorem wpList_next_tots (hg : o.guard = none) (it : Operand) (hop : o.op = Op.next it false) (b r n cnt : Nat) (p done : T6 → Prop) (hit : a.eval it = .pointer (some ⟨r, 0, none⟩)) (h : Rng w b r n p done cnt)
    (hDone : cnt = 0 → (∀ t, p t → done t) → wpList Tryd.prog ops Q rest (a.put o.dst (.tuple #[.bool false])) w)
    (hMore : ∀ (t : T6) (c : Bool) (w' : World) (cnt' : Nat), p t → okT t = true → ¬ done t → Rng w' b r n p (fun s => done s ∨ s = t) cnt' → cnt' < cnt → w.grownBy w' (some r) → w'.heap.size = w.heap.size →
      (Instr.entry (.pointer (some ⟨r, 0, none⟩))).run Tryd.prog w' = .ok (.tuple #[tv t, .bool c]) w' → wpList Tryd.prog ops Q rest (a.put o.dst (.tuple #[.bool true, tv t, .bool c])) w') :
    wpList Tryd.prog ops Q (o :: rest) a w := by
  obtain ⟨D, left, hr, hs, hd⟩ := h
  refine wpList_next_ranges w hg it hop 66 keyed66 (plainElem Tryd.prog 4) tv Value.bool (fun key kl hk => key_inv hk) (fun v y hv => ?_) b r n D left cnt hit hr (fun h0 hl => hDone h0 (fun t ht => (hd t ht).1 (hl _))) ?_
  · unfold plainElem at hv
    rw [under4'] at hv
    cases v <;> simp at hv
    exact ⟨_, rfl⟩
  · intro x c kl y w' cnt' hk hl hv hat hrg hlt hgr hsz hen
    obtain ⟨t, hp, rfl⟩ := (hs.1 kl).1 (Maps.has_true_of_atKey hat)
    have hok := hs.2 t hp
    obtain rfl : t = x := tv_inj (keyed66.inj (key_mk hok) hk)
    refine hMore t c w' cnt' hp hok (fun hdn => ?_) ⟨D, _, hrg, hs, fun s hs' => ?_⟩ hlt hgr hsz hen
    · rw [(hd t hp).2 hdn] at hl
      cases hl
    · by_cases e : s = t
      · subst e
        simp [WideAt.sameKey_self (key_lit hok)]
      · have hne : kT s ≠ kT t := fun h => e (kT_inj (hs.2 s hs') hok h)
        simp [Maps.sameKey_ne hne, e, hd s hs']
theorem wpList_put_tots (hg : o.guard = none) (m x v : Operand) (hop : o.op = Op.mapUpdate 63 m x v) (b n : Nat) (p : T6 → Prop) (hm : a.eval m = .map (some b)) (h : Tots w b n p) (hn : n < maxLen) (t : T6) (ht : okT t = true) (c : Bool) (hx : a.eval x = tv t) (hv : a.eval v = .bool c)
    (hK : ∀ w', Tots w' b (n + 1) (fun s => p s ∨ s = t) → w.grownBy w' (some b) → w'.heap.size = w.heap.size → wpList Tryd.prog ops Q rest (a.put o.dst undef) w') :
    wpList Tryd.prog ops Q (o :: rest) a w := by
  obtain ⟨D, hD, hs⟩ := h
  refine wpList_plain hg fun K' hK' => ?_
  obtain ⟨w', hrun, r1, r2⟩ := hD.store keyed66 under63 hn (key_mk ht) (plainElem_bool under4' c)
  unfold Oper.wp
  simp [execOp, hop, hm, hx, hv, hrun, Result.andThen]
  refine hK' _ _ (hK w' ⟨_, r1, hs.put hD.isMap ht _⟩ r2.grown ?_)
  obtain ⟨es, clock, es', clock', hb, rfl⟩ := r2
  simp [ChangeMaps.setBlock]
theorem wpList_ins_tots (hg : o.guard = none) (m x v : Operand) (hop : o.op = Op.insert 63 m x v) (b n : Nat) (p : T6 → Prop) (hm : a.eval m = .map (some b)) (h : Tots w b n p) (hn : n < maxLen) (t : T6) (ht : okT t = true) (c : Bool) (hx : a.eval x = tv t) (hv : a.eval v = .bool c)
    (hK : ∀ w', Tots w' b (n + 1) (fun s => p s ∨ s = t) → w.grownBy w' (some b) → w'.heap.size = w.heap.size → wpList Tryd.prog ops Q rest (a.put o.dst undef) w') :
    wpList Tryd.prog ops Q (o :: rest) a w := by
  obtain ⟨D, hD, hs⟩ := h
  refine wpList_plain hg fun K' hK' => ?_
  obtain ⟨w', hrun, r1, r2⟩ := hD.store keyed66 under63 hn (key_mk ht) (plainElem_bool under4' c)
  unfold Oper.wp
  simp [execOp, hop, hm, hx, hv, hrun, Result.andThen]
  refine hK' _ _ (hK w' ⟨_, r1, hs.put hD.isMap ht _⟩ r2.grown ?_)
  obtain ⟨es, clock, es', clock', hb, rfl⟩ := r2
  simp [ChangeMaps.setBlock]
end
end Go.Proofs.YtgbmmelkagcbdaaDoor
