/- A region that draws its order: first operations that are quiet in a class of worlds, in whatever order; then a tail, one behind the other. Outside a round and within one. No condition. -/
import Derived.Deep.QuietTactic
import Derived.BigQuiet
import Derived.StillTail
import Derived.OrdersIn
import Derived.OwnWalkIn
import Derived.Test.YtgbmmelkagcbdaaDoorRows
namespace Go.Proofs.YtgbmmelkagcbdaaDoor
open Go

section
variable {P : Program} {md : Region.Mode} {C : World → Prop}

def lift (H : Array Bool) (m : Nat) : Array Bool := H ++ Array.replicate m false
theorem lift_getD_lt {H : Array Bool} {m j : Nat} {d : Bool} (h : j < H.size) : (lift H m).getD j d = H.getD j d := by
  unfold lift
  simp [Array.getD_eq_getD_getElem?, Array.getElem?_append, h]
theorem lift_getD_ge {H : Array Bool} {m j : Nat} {d : Bool} (h : H.size ≤ j) (h2 : j < H.size + m) : (lift H m).getD j d = false := by
  unfold lift
  simp only [Array.getD_eq_getD_getElem?, Array.getElem?_append, if_neg (Nat.not_lt.2 h)]
  rw [Array.getElem?_replicate, if_pos (by omega)]
  rfl
theorem lift_size {H : Array Bool} {m : Nat} : (lift H m).size = H.size + m := by simp [lift]
theorem lift_set {H : Array Bool} {m i : Nat} (h : i < H.size) : (lift H m).setIfInBounds i true = lift (H.setIfInBounds i true) m := by
  apply Array.ext_getElem?
  intro j
  unfold lift
  simp only [Array.getElem?_setIfInBounds, Array.getElem?_append, Array.size_setIfInBounds, Array.size_append]
  by_cases hij : i = j
  · subst hij; simp [h]; omega
  · simp [hij]

/-- The first n operations look back alone, and are guarded by operations among themselves. -/
def downB (md : Region.Mode) (l : List Oper) (n : Nat) : Bool :=
  (List.range n).all fun i => match l[i]? with
    | some o => (o.after.all fun e => !Region.binds md e || decide (e.on < i)) && (match o.guard with | some (j, _) => decide (j < n) | none => true)
    | none => false
theorem downB_spec {l : List Oper} {n i : Nat} (h : downB md l n = true) (hi : i < n) : ∃ o, l[i]? = some o ∧ (∀ e ∈ o.after, Region.binds md e = true → e.on < i) ∧ (∀ j b, o.guard = some (j, b) → j < n) := by
  unfold downB at h
  have := List.all_eq_true.1 h i (List.mem_range.2 hi)
  cases ho : l[i]? with
  | none => rw [ho] at this; cases this
  | some o =>
    rw [ho] at this
    simp only [Bool.and_eq_true, Array.all_eq_true'] at this
    refine ⟨o, rfl, fun e he hb => ?_, fun j b hg => ?_⟩
    · have := this.1 e he
      simpa [hb] using this
    · have := this.2
      rw [hg] at this
      simpa using this

theorem all_listed {l : List Oper} {n : Nat} {H : Array Bool} (hd : downB md l n = true) (hH : H.size = n) (hr : Region.ready md (l.take n).toArray H = []) : H = Array.replicate n true := by
  have key : ∀ i, i < n → H.getD i true = true := by
    intro i
    induction i using Nat.strongRecOn with
    | _ i ih =>
      intro hi
      cases hx : H.getD i true with
      | true => rfl
      | false =>
        exfalso
        obtain ⟨o, ho, hdep, _⟩ := downB_spec hd hi
        have hmem : i ∈ Region.ready md (l.take n).toArray H := by
          rw [mem_ready]
          refine ⟨hx, o, by simp [hi, ho], fun e he hb => ?_⟩
          have h1 := hdep e he hb
          have h2 := ih e.on h1 (by omega)
          have h3 : e.on < H.size := by omega
          simpa [Array.getD_eq_getD_getElem?, Array.getElem?_eq_getElem h3] using h2
        rw [hr] at hmem
        cases hmem
  apply Array.ext
  · simp [hH]
  · intro i h1 h2
    have := key i (by omega)
    simpa [Array.getD_eq_getD_getElem?, Array.getElem?_eq_getElem h1] using this

theorem wpAny_more {ops : Array Oper} {Q' : Exit → Act → World → Prop} : ∀ (g : Nat) (listed : Array Bool) (a : Act) (w : World), wpAny P md ops Q' g listed a w → wpAny P md ops Q' (g + 1) listed a w
  | 0, listed, a, w, h => ⟨fun _ => h.2, fun i hi => (by rw [h.1] at hi; cases hi)⟩
  | g + 1, listed, a, w, h => ⟨h.1, fun i hi => wpOp_mono (fun a' w' h' => wpAny_more g _ a' w' h') (h.2 i hi)⟩
theorem wpAny_le {ops : Array Oper} {Q' : Exit → Act → World → Prop} {g : Nat} {listed : Array Bool} {a : Act} {w : World} (h : wpAny P md ops Q' g listed a w) : ∀ k, wpAny P md ops Q' (g + k) listed a w
  | 0 => h
  | k + 1 => wpAny_more _ _ _ _ (wpAny_le h k)

theorem wanted_take {l : List Oper} {n : Nat} {o : Oper} (hg : ∀ j b, o.guard = some (j, b) → j < n) (t : Array Value) : Region.wanted o (yielded (l.take n).toArray t) = Region.wanted o (yielded l.toArray t) := by
  unfold Region.wanted
  cases h : o.guard with
  | none => rfl
  | some x =>
    obtain ⟨j, b⟩ := x
    have := hg j b h
    simp [yielded, this]
theorem qOp_full {l : List Oper} {n i : Nat} {K : Act → Prop} {a : Act} (hd : downB md l n = true) (hi : i < n) (h : qOp P (l.take n).toArray C i K a) : qOp P l.toArray C i K a := by
  obtain ⟨o, ho, _, hg⟩ := downB_spec hd hi
  unfold qOp at *
  have e1 : (l.take n).toArray[i]? = some o := by simp [hi, ho]
  have e2 : l.toArray[i]? = some o := by simp [ho]
  rw [e1] at h
  rw [e2]
  simp only at h ⊢
  rw [wanted_take hg] at h
  exact h

theorem wpAny_of_headQ {l : List Oper} {n g : Nat} {Qh : Act → Prop} {Q' : Exit → Act → World → Prop} (hs : Region.sinkB md l.toArray n = true) (hc : Region.chainB md l.toArray n = true) (hn : n < l.length) (hd : downB md l n = true)
    (hend : ∀ a w, C w → Qh a → wpAny P md l.toArray Q' g (lift (Array.replicate n true) (l.length - n)) a w) :
    ∀ (fuel : Nat) (H : Array Bool) (a : Act) (w : World), H.size = n → HeadInv md l.toArray n (lift H (l.length - n)) → C w → wpAnyQ P md (l.take n).toArray C Qh fuel H a →
      wpAny P md l.toArray Q' (fuel + g) (lift H (l.length - n)) a w := by
  intro fuel
  induction fuel with
  | zero =>
    intro H a w hH inv hw h
    rw [all_listed hd hH h.1, Nat.zero_add]
    exact hend a w hw h.2
  | succ fuel ih =>
    intro H a w hH inv hw h
    by_cases hr : Region.ready md (l.take n).toArray H = []
    · have := wpAny_le (hend a w hw (h.1 hr)) (fuel + 1)
      rw [all_listed hd hH hr, Nat.add_comm]
      exact this
    · obtain ⟨i0, hi0⟩ := List.exists_mem_of_ne_nil _ hr
      have hi0n : i0 < n := by
        obtain ⟨_, o, ho, _⟩ := mem_ready.1 hi0
        have := (Array.getElem?_eq_some_iff.1 ho).1
        simp at this; omega
      have hun : (lift H (l.length - n)).getD i0 true = false := by rw [lift_getD_lt (by omega)]; exact (mem_ready.1 hi0).1
      have htail := tail_waits hs hc (by simpa using hn) inv _ i0 rfl hi0n hun
      rw [show fuel + 1 + g = (fuel + g) + 1 by omega]
      have hdown : ∀ i, i ∈ Region.ready md l.toArray (lift H (l.length - n)) → i < n ∧ i ∈ Region.ready md (l.take n).toArray H := fun i hi => by
        have hin : i < n := by
          rcases Nat.lt_or_ge i n with h | h
          · exact h
          · exact absurd hi (htail i h)
        refine ⟨hin, ?_⟩
        obtain ⟨h1, o, ho, h2⟩ := mem_ready.1 hi
        obtain ⟨o', ho', hdep, _⟩ := downB_spec hd hin
        have : o = o' := by simp [ho'] at ho; exact ho.symm
        subst this
        rw [mem_ready]
        refine ⟨by rwa [lift_getD_lt (by omega)] at h1, o, by simp [hin, ho'], fun e he hb => ?_⟩
        have := h2 e he hb
        rwa [lift_getD_lt (by have := hdep e he hb; omega)] at this
      refine ⟨fun h0 => ?_, fun i hi => ?_⟩
      · exfalso
        have : i0 ∈ Region.ready md l.toArray (lift H (l.length - n)) := by
          obtain ⟨h1, o, ho, h2⟩ := mem_ready.1 hi0
          obtain ⟨o', ho', hdep, _⟩ := downB_spec hd hi0n
          have : o = o' := by simp [hi0n, ho'] at ho; exact ho.symm
          subst this
          rw [mem_ready]
          refine ⟨hun, o, by simp [ho'], fun e he hb => ?_⟩
          rw [lift_getD_lt (by have := hdep e he hb; omega)]
          exact h2 e he hb
        rw [h0] at this
        cases this
      · obtain ⟨hin, hiH⟩ := hdown i hi
        have hq := qOp_full (md := md) hd hin (h.2 i hiH)
        rw [lift_set (by omega)]
        refine wpOp_of_qOp hw (fun a' w' hw' hK => ?_) hq
        refine ih (H.setIfInBounds i true) a' w' (by simpa using hH) ?_ hw' hK
        rw [← lift_set (by omega)]
        exact inv.set hi hin

/-- What is looked at of a region: the head in whatever order, then the tail. -/
def tailB (md : Region.Mode) (l : List Oper) (n : Nat) : Bool :=
  Region.lexB md (l.take n).toArray && decide (n < l.length) && Region.sinkB md l.toArray n && Region.chainB md l.toArray n && downB md l n && Region.seqB md l.toArray (l.length - n) n (lift (Array.replicate n true) (l.length - n))

theorem wpAny_quiet_tail {l : List Oper} {n : Nat} {Q : Exit → Act → World → Prop} {a : Act} {w : World} (hB : tailB md l n = true) (hC : C w)
    (h : wpQuiet P (l.take n).toArray C (fun a' => ∀ w', C w' → wpList P l.toArray Q (l.drop n) a' w') (l.take n) a) : wpAny P md l.toArray Q l.toArray.size (Array.replicate l.toArray.size false) a w := by
  simp only [tailB, Bool.and_eq_true, decide_eq_true_eq, Region.lexB] at hB
  obtain ⟨⟨⟨⟨⟨⟨hsel, hlex⟩, hn⟩, hs⟩, hc⟩, hd⟩, hseq⟩ := hB
  have hsz : (l.take n).toArray.size = n := by simp; omega
  have hq := wpAnyQ_lex (C := C) (md := md) hsel (l.take n) 0 (Array.replicate n false) a (by simp) (by rw [hsz] at hlex; simpa [show min n l.length = n by omega] using hlex) h
  rw [show (l.take n).length = n by simp; omega] at hq
  have inv0 : HeadInv md l.toArray n (lift (Array.replicate n false) (l.length - n)) := by
    refine ⟨by simp [lift_size]; omega, fun j oj _ hl => ?_, fun t h1 h2 => lift_getD_ge (by simpa using h1) (by simp at h2 ⊢; omega)⟩
    rcases Nat.lt_or_ge j n with h | h
    · rw [lift_getD_lt (by simpa using h), getD_replicate_false] at hl; cases hl
    · rcases Nat.lt_or_ge j l.length with h' | h'
      · rw [lift_getD_ge (by simpa using h) (by simp; omega)] at hl; cases hl
      · have : (lift (Array.replicate n false) (l.length - n)).getD j false = false := by
          rw [Array.getD_eq_getD_getElem?, Array.getElem?_eq_none (by rw [lift_size]; simp; omega)]; rfl
        rw [this] at hl; cases hl
  have hend : ∀ a' w', C w' → (∀ w', C w' → wpList P l.toArray Q (l.drop n) a' w') → wpAny P md l.toArray Q (l.length - n) (lift (Array.replicate n true) (l.length - n)) a' w' := fun a' w' hw' hQ => by
    have := wpAny_of_seq (md := md) (Q' := Q) (l.drop n) n _ a' w' (fun j => by simp) (by simpa using hseq) (hQ w' hw')
    rwa [List.length_drop] at this
  have hh := wpAny_of_headQ (C := C) (g := l.length - n) (Q' := Q) hs hc hn hd hend n (Array.replicate n false) a w (by simp) inv0 hC hq
  have e1 : n + (l.length - n) = l.toArray.size := by simp; omega
  have e2 : lift (Array.replicate n false) (l.length - n) = Array.replicate l.toArray.size false := by
    unfold lift; rw [Array.replicate_append_replicate]; congr 1
  rw [e1, e2] at hh
  exact hh

/-- Outside a round. -/
theorem wp_quiet_tail {id : Nat} {l : List Oper} (n : Nat) {Q : Exit → Act → World → Prop} {a : Act} {w : World} (hm : P.follows .mixedOrders = true) (hB : tailB .any l n = true) (hC : C { w with drawn := w.drawn + 1 })
    (h : wpQuiet P (l.take n).toArray C (fun a' => ∀ w', C w' → wpList P l.toArray Q (l.drop n) a' w') (l.take n) a) : (Code.region id l.toArray true).wp P Q a w :=
  wp_region_any hm (wpAny_quiet_tail hB hC h)

/-! ### Within a round of a range over a function -/
theorem stepsIn_of (l : Option Nat) {m m' : Machine} (h : Steps P m m') : StepsIn (Machine.fenced P { Fence.wide with round := l }) P m m' :=
  (StepsIn.of_steps h).mono fun m _ => fenced_wide P m
theorem callsIn_of (l : Option Nat) {k : Nat} {f : FuncId} {args : Array Value} {w : World} {R : Ending → World → Prop} (h : Calls P f args w R) : CallsIn { Fence.wide with round := l } k P f args w R := (callsIn_wide (n := k)).2 h
theorem oper_in (l : Option Nat) (k : Nat) {o : Oper} {a : Act} {K : Act → World → Prop} {Q : Exit → Act → World → Prop} {w : World} (hd : ∀ c, o.op ≠ .defer c) (h : o.wp P a w K Q) : o.wpIn { Fence.wide with round := l } k P a w K Q := by
  unfold Oper.wp at h
  unfold Oper.wpIn
  refine ⟨fun _ _ => trivial, ?_⟩
  rw [Oper.semAt_eq l a.eval o hd]
  generalize (execOp a.eval o).run P w = r at *
  cases r with
  | ok x w' =>
    cases x <;> simp only [Oper.upon, Oper.uponIn] at h ⊢ <;>
      first
        | exact h
        | exact h.elim
        | exact ⟨(fun h => by cases h), callsIn_of l (h.mono fun e w'' he => by cases e <;> exact he)⟩
        | exact ⟨(fun h => by cases h), fun c cs _ => let ⟨v, w2, r, s⟩ := h c cs; ⟨v, w2, r, stepsIn_of l s⟩⟩
  | halt x w' => cases x <;> simp only [Oper.upon, Oper.uponIn] at h ⊢ <;> exact h
def noDefer (l : List Oper) : Bool := l.all fun o => match o.op with | .defer _ => false | _ => true
theorem noDefer_spec {l : List Oper} (h : noDefer l = true) {i : Nat} {o : Oper} (ho : l.toArray[i]? = some o) : ∀ c, o.op ≠ .defer c := fun c e => by
  have := List.all_eq_true.1 h o (List.mem_of_getElem? (by simpa using ho))
  rw [e] at this
  cases this
theorem wpOp_in (l : Option Nat) (k : Nat) {L : List Oper} (hd : noDefer L = true) {Q : Exit → Act → World → Prop} (hno : ∀ a w, ¬ Q .outgrown a w) {i : Nat} {K K' : Act → World → Prop} {a : Act} {w : World} (hK : ∀ a w, K a w → K' a w)
    (h : wpOp P L.toArray Q i K a w) : wpOpIn { Fence.wide with round := l } k P L.toArray Q i K' a w := by
  unfold wpOp at h
  unfold wpOpIn
  cases ho : L.toArray[i]? with
  | none => rw [ho] at h; exact hK _ _ h
  | some o =>
    rw [ho] at h
    simp only at h ⊢
    split
    · rename_i hw
      rw [if_pos hw] at h
      rcases h with h | ⟨_, a', w', h⟩
      · exact Oper.wpIn_mono hK (oper_in l k (noDefer_spec hd ho) h)
      · exact absurd h (hno _ _)
    · rename_i hw
      rw [if_neg hw] at h
      exact ⟨fun _ _ => trivial, hK _ _ h⟩
theorem wpAny_in (l : Option Nat) (k : Nat) {L : List Oper} (hd : noDefer L = true) {Q : Exit → Act → World → Prop} (hno : ∀ a w, ¬ Q .outgrown a w) :
    ∀ (fuel : Nat) (listed : Array Bool) (a : Act) (w : World), wpAny P md L.toArray Q fuel listed a w → wpAnyIn { Fence.wide with round := l } k P md L.toArray Q fuel listed a w
  | 0, _, _, _, h => h
  | fuel + 1, _, _, _, h => ⟨h.1, fun i hi => wpOp_in l k hd hno (fun a' w' h' => wpAny_in l k hd hno fuel _ a' w' h') (h.2 i hi)⟩
/-- At the wide fence, in a round or outside. -/
theorem wpIn_quiet_tail {id : Nat} {L : List Oper} (l : Option Nat) (k : Nat) (n : Nat) {Q : Exit → Act → World → Prop} {a : Act} {w : World} (hm : P.follows .mixedOrders = true) (hB : tailB .any L n = true) (hd : noDefer L = true)
    (hno : ∀ a w, ¬ Q .outgrown a w) (hC : C { w with drawn := w.drawn + 1 })
    (h : wpQuiet P (L.take n).toArray C (fun a' => ∀ w', C w' → wpList P L.toArray Q (L.drop n) a' w') (L.take n) a) : (Code.region id L.toArray true).wpIn { Fence.wide with round := l } k P Q a w :=
  wpIn_region_any hm (wpAny_in l k hd hno _ _ _ _ (wpAny_quiet_tail hB hC h))
theorem wpIn_quiet {id : Nat} {L : List Oper} (l : Option Nat) (k : Nat) {Q : Exit → Act → World → Prop} {a : Act} {w : World} (hm : P.follows .mixedOrders = true) (hB : Region.lexB .any L.toArray = true) (hd : noDefer L = true)
    (hno : ∀ a w, ¬ Q .outgrown a w) (hC : C { w with drawn := w.drawn + 1 })
    (h : wpQuiet P L.toArray C (fun a' => ∀ w', C w' → Q .normal a' w') L a) : (Code.region id L.toArray true).wpIn { Fence.wide with round := l } k P Q a w := by
  simp only [Region.lexB, Bool.and_eq_true] at hB
  refine wpIn_region_any hm (wpAny_in l k hd hno _ _ _ _ (wpAny_of_quiet (Q := fun a' => ∀ w', C w' → Q .normal a' w') (fun _ w' hw' h => h w' hw') _ _ _ _ hC ?_))
  have := wpAnyQ_lex (C := C) (md := .any) hB.1 L 0 (Array.replicate L.toArray.size false) a (by simp) (by simpa using hB.2) h
  simpa using this
theorem wp_quiet {id : Nat} {L : List Oper} {Q : Exit → Act → World → Prop} {a : Act} {w : World} (hm : P.follows .mixedOrders = true) (hB : Region.lexB .any L.toArray = true) (hC : C { w with drawn := w.drawn + 1 })
    (h : wpQuiet P L.toArray C (fun a' => ∀ w', C w' → Q .normal a' w') L a) : (Code.region id L.toArray true).wp P Q a w :=
  wp_region_quiet hm hB hC (by simpa using h)
end
end Go.Proofs.YtgbmmelkagcbdaaDoor
