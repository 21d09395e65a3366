/- A range over a function whose loop variable is boxed, and whose body never leaves: the kit's law in a shape that is used below. No condition. -/
import Derived.Test.YtgbmmelkagcbdaaDoorTrav
namespace Go.Proofs.YtgbmmelkagcbdaaDoor
open Go.RowKit Go Go.Shelf

/-- The frame of a round: the loop's parameters laid, and the box's address. -/
def roundAct (a : Act) (ps : Array Tmp) (vs : Array Value) (sl : Nat) (Bx : Nat) : Act := { tmps := ((ps.zip vs).foldl (fun t (p, v) => t.setIfInBounds p v) a.tmps).setIfInBounds sl (.pointer (some ⟨Bx, 0, none⟩)), defers := [] }
theorem range_box {P : Program} {n : Nat} {α : Type} {g : Operand} {ps : Array Tmp} {assign body : Code} {Q : Exit → Act → World → Prop} {a : Act} {w : World} (sl : Nat) (bt : TypeId) (encB : α → Array Value)
    (h1 : 1 ≤ n) {gf : Nat} {lb : Array Value} (hg : a.eval g = .func (.func gf) #[] lb) (eg : ∀ args w, (callFunc gf args).run P w = .ok (.enter gf args) w)
    {encs : α → Array Value} {Kp : World → World → Prop} {S Sp : List α → Prop} {N : Nat} (hseq : SeqStopsK Fence.wide (n - 1) P gf lb encs Kp S Sp N w)
    (hKt : ∀ {A B C : World}, Kp A B → Kp B C → Kp A C) (hKb : ∀ (W : World) (l : Nat) (o : Obj), w.heap.size ≤ l → Kp W (W.putObj l o)) (hps : ∀ x, (encs x).size = ps.size)
    (I : List α → World → Prop) (hI : OwnFrom w.heap.size I) (hKa : ∀ pre W o, I pre W → Kp W (W.alloc o)) (h0 : I [] w) (hsz : ∀ pre W, I pre W → w.heap.size ≤ W.heap.size)
    (hassign : ∀ (l : Nat) (x : α) (W : World) (K : Act → World → Prop), K (roundAct a ps (encs x) sl W.heap.size) (W.alloc (.cells (encB x) bt)) →
      assign.wpIn (Fence.wide.inRound l) (n - 1 - 1) P (Exit.then K (fun _ _ _ => False)) { tmps := (ps.zip (encs x)).foldl (fun t (p, v) => t.setIfInBounds p v) a.tmps, defers := [] } W)
    (hbody : ∀ (l : Nat) (pre : List α) (x : α) (Bx : Nat) (W : World), w.heap.size ≤ Bx → W.heap[Bx]? = some (.cells (encB x) bt (0, 0)) → I pre W → pre.length < N →
      body.wpIn (Fence.wide.inRound l) (n - 1 - 1) P (fun e _ W' => e = .normal ∧ KeepsFrom w.heap.size W W' ∧ Kp W W' ∧ I (pre ++ [x]) W') (roundAct a ps (encs x) sl Bx) W)
    (hdone : ∀ (D : Nat) (xs : List α) (W : World), w.heap.size ≤ D → S xs → I xs W → W.heap[D]? = some (.deferred (some [])) → Q .normal { a with defers := { target := .collected D, args := #[] } :: a.defers } W) :
    (Code.rangeFunc g ps assign body).wpIn Fence.wide n P Q a w := by
  refine wpIn_rangeFunc_ownH rfl h1 hg trivial eg hseq hKt (fun W l o o' hl _ _ _ => hKb W l o' hl) (Below.refl _ _) hps I (fun _ _ _ => False) hI (fun _ _ _ _ _ hs _ _ => hs) h0
    (fun x a' W => ∃ Bx, w.heap.size ≤ Bx ∧ W.heap[Bx]? = some (.cells (encB x) bt (0, 0)) ∧ a' = roundAct a ps (encs x) sl Bx) ?_ ?_ ?_ hdone (fun _ _ _ _ _ _ h => h.elim)
  · rintro x a' s A B row ⟨Bx, hB, hh, ha⟩ hgr hr
    refine ⟨Bx, hB, (hgr.block Bx (Array.getElem?_eq_some_iff.1 hh).1 ?_).trans hh, ha⟩
    intro e
    obtain ⟨_, o, ho, hc⟩ := hr Bx e.symm
    rw [hh] at ho; cases ho; cases hc
  · intro l pre x W K hi hK
    refine hassign l x W K (hK _ _ ((KeepsOthers.alloc _ _).from _) (hKa _ _ _ hi) (hI.alloc _ hi) ⟨W.heap.size, hsz _ _ hi, World.alloc_heap_new W _, rfl⟩)
  · rintro l pre x a' W _ _ hi ⟨Bx, hB, hh, rfl⟩ hlt
    refine wpIn_mono (hbody l pre x Bx W hB hh hi hlt) ?_
    rintro e a2 W' ⟨rfl, h⟩
    exact h
end Go.Proofs.YtgbmmelkagcbdaaDoor
