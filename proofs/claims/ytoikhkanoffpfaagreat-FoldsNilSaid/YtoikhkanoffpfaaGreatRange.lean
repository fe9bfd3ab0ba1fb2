import Derived.RangeFuncNested
import Derived.RangeFuncBound
import Derived.RangeFuncCalls
import Derived.RangeFuncLeaves
import Derived.Shelf.Abstract
import Derived.Shelf.RegionOpen
import Derived.WalkKit
import Derived.OwnWalkIn
import Derived.TacticsInMore
import Derived.LoopNIn
import Derived.LoopIn
import Derived.Test.YtoikhkanoffpfaaGreatMem
namespace Go.Proofs.YtoikhkanoffpfaaGreat
open Go.RowKit Go.Shelf
set_option linter.unusedVariables false

/-! ### 'for .. := range f { .. }', its book-keeping apart from all else -/
/-- the record of a loop that stands in a function's own text -/
def recOf (fn : FuncId) (tmps : Array Value) (ps : Array Tmp) (assign body : Code) (D : Nat) (st : LoopState) (pe : Option Code) : Loop :=
  { state := st, pending := pe, fn := fn, tmps := tmps, params := ps, assign := assign, body := body, defers := D }
/-- what the loop has laid for itself: the block for deferred calls at D, its record behind it -/
structure Book (W : World) (D : Nat) (r : Loop) : Prop where
  rec_ : W.heap[D + 1]? = some (.loop r)
  def_ : W.heap[D]? = some (.deferred (some []))
theorem Book.lt {W : World} {D : Nat} {r : Loop} (h : Book W D r) : D + 1 < W.heap.size := (Array.getElem?_eq_some_iff.1 h.rec_).1
theorem Book.upd {W W' : World} {D : Nat} {r : Loop} {S : Nat → Prop} (h : Book W D r) (hu : Upd S W W') (h1 : ¬ S D) (h2 : ¬ S (D + 1)) : Book W' D r := ⟨hu.heap h.rec_ h2, hu.heap h.def_ h1⟩
theorem Book.put {W : World} {D : Nat} {r : Loop} (h : Book W D r) (r' : Loop) : Book (W.putObj (D + 1) (.loop r')) D r' :=
  ⟨World.putObj_heap_same h.lt, (World.putObj_heap_other (by omega)).trans h.def_⟩
theorem upd_put (W : World) (l : Nat) (o : Obj) (S : Nat → Prop) (hS : S l) : Upd S W (W.putObj l o) :=
  ⟨rfl, rfl, rfl, by simp, fun k _ hn => World.putObj_heap_other (fun e => hn (e ▸ hS))⟩

variable {F : Fence} {n : Nat} {P : Program}

/-- A round: yield is called. The assignments, then the body; it goes on (.normal), or is left. -/
theorem yield_round {W : World} {D : Nat} {fn : FuncId} {tmps : Array Value} {ps : Array Tmp} {assign body : Code} {args : Array Value} {R : Ending → World → Prop}
    (hfn : F.fn fn) (hb : Book W D (recOf fn tmps ps assign body D .ready none)) (hps : args.size = ps.size)
    (h : assign.wpIn (F.inRound (D + 1)) n P (Exit.then (fun a1 W1 => Book W1 D (recOf fn tmps ps assign body D .ready none) ∧
        body.wpIn (F.inRound (D + 1)) n P (fun e a2 W2 => Book W2 D (recOf fn tmps ps assign body D .busy none) ∧ match e with
          | .normal => R (.returned (.bool true)) (W2.putObj (D + 1) (.loop (recOf fn tmps ps assign body D .ready none)))
          | .ret => R (.returned (.bool false)) (W2.putObj (D + 1) (.loop (recOf fn tmps ps assign body D .done (some .ret))))
          | .exit id => R (.returned (.bool false)) (W2.putObj (D + 1) (.loop (recOf fn tmps ps assign body D .done (some (.exit id)))))
          | .goto t => R (.returned (.bool false)) (W2.putObj (D + 1) (.loop (recOf fn tmps ps assign body D .done (some (.goto t)))))
          | _ => False) a1 (W1.putObj (D + 1) (.loop (recOf fn tmps ps assign body D .busy none)))) (fun _ _ _ => False))
      { tmps := (ps.zip args).foldl (fun t (p, v) => t.setIfInBounds p v) tmps, defers := [] } W) :
    YieldAt F n P (D + 1) args W R := by
  have hy := run_yield (P := P) (args := args) hb.rec_ hps
  refine ⟨fn, _, assign, body, hy, roundIn_of_wpIn hfn (wpIn_mono h ?_)⟩
  rintro e a1 W1 hq
  cases e with
  | normal =>
    obtain ⟨hb1, hbody⟩ := hq
    refine ⟨_, run_beginRound hb1.rec_ rfl, wpIn_mono hbody ?_⟩
    rintro e2 a2 W2 ⟨hb2, hR⟩
    cases e2 with
    | normal => exact ⟨_, _, run_endRound none hb2.rec_, hR⟩
    | ret => exact ⟨_, _, run_endRound (some .ret) hb2.rec_, hR⟩
    | exit id => exact ⟨_, _, run_endRound (some (.exit id)) hb2.rec_, hR⟩
    | goto t => exact ⟨_, _, run_endRound (some (.goto t)) hb2.rec_, hR⟩
    | panic c => exact hR.elim
    | outgrown => exact hR.elim
  | _ => exact hq.elim

/-- The statement, where the loop stands in a function's own text. -/
theorem range_outer {g : Operand} {ps : Array Tmp} {assign body : Code} {Q : Exit → Act → World → Prop} {a : Act} {w : World}
    (hro : F.round = none) (h1 : 1 ≤ n) {gf : Nat} {lb : Array Value} (hg : a.eval g = .func (.func gf) #[] lb) (hFg : F.fn gf) (eg : ∀ args w, (callFunc gf args).run P w = .ok (.enter gf args) w)
    (Done : World → Prop) (Left : Code → World → Prop)
    (hit : ∀ fn W, F.fn fn → Book W w.heap.size (recOf fn a.tmps ps assign body w.heap.size .ready none) → Upd No w W → W.heap.size = w.heap.size + 2 →
      CallsIn F (n - 1) P gf (#[.func (.yield (w.heap.size + 1)) #[] #[]] ++ lb) W fun e W2 => (∃ v, e = .returned v) ∧
        ((Book W2 w.heap.size (recOf fn a.tmps ps assign body w.heap.size .ready none) ∧ Done W2) ∨ ∃ c, Book W2 w.heap.size (recOf fn a.tmps ps assign body w.heap.size .done (some c)) ∧ Left c W2))
    (hdone : ∀ W W2, Done W → Upd (fun k => k = w.heap.size + 1) W W2 → W2.heap[w.heap.size]? = some (.deferred (some [])) → (∃ r, W2.heap[w.heap.size + 1]? = some (.loop r)) → Q .normal { a with defers := { target := .collected w.heap.size, args := #[] } :: a.defers } W2)
    (hstop : ∀ c W W2, Left c W → Upd (fun k => k = w.heap.size + 1) W W2 → W2.heap[w.heap.size]? = some (.deferred (some [])) → (∃ r, W2.heap[w.heap.size + 1]? = some (.loop r)) → c.wpIn F n P Q { a with defers := { target := .collected w.heap.size, args := #[] } :: a.defers } W2) :
    (Code.rangeFunc g ps assign body).wpIn F n P Q a w := by
  refine wpIn_rangeFunc ?_
  intro fn hfn
  rw [hro]
  have hb : Book ((w.alloc (.deferred (some []))).alloc (.loop (recOf fn a.tmps ps assign body w.heap.size .ready none))) w.heap.size (recOf fn a.tmps ps assign body w.heap.size .ready none) := by
    refine ⟨?_, (Below.heap_alloc _ _ _ (by simp)).trans (World.alloc_heap_new w _)⟩
    have := World.alloc_heap_new (w.alloc (.deferred (some []))) (.loop (recOf fn a.tmps ps assign body w.heap.size .ready none))
    rwa [World.size_alloc] at this
  have hu : Upd No w ((w.alloc (.deferred (some []))).alloc (.loop (recOf fn a.tmps ps assign body w.heap.size .ready none))) := ((Upd.refl No w).alloc _).alloc _
  have hsz : ((w.alloc (.deferred (some []))).alloc (.loop (recOf fn a.tmps ps assign body w.heap.size .ready none))).heap.size = w.heap.size + 2 := by simp
  have hent := run_enterLoop_outer (P := P) (w := w) fn a.tmps ps assign body
  obtain ⟨W1, hW1⟩ : ∃ W1, ((w.alloc (.deferred (some []))).alloc (.loop (recOf fn a.tmps ps assign body w.heap.size .ready none))) = W1 := ⟨_, rfl⟩
  rw [show ((w.alloc (.deferred (some []))).alloc (.loop { state := .ready, pending := none, fn, tmps := a.tmps, params := ps, assign, body, defers := w.heap.size })) = W1 from hW1] at hent
  rw [hW1] at hb hu hsz
  refine ⟨w.heap.size + 1, [{ target := .collected w.heap.size, args := #[] }], W1, { target := .fn (.func gf) lb, args := #[.func (.yield (w.heap.size + 1)) #[] #[]] }, W1, gf,
    #[.func (.yield (w.heap.size + 1)) #[] #[]] ++ lb, W1, hent, ?_, ?_, ?_, fun _ => h1, ?_⟩
  · simp only [resolve, hg]
    simp [go_sem]
  · intro f' hf'; simp [Target.leads] at hf'; subst hf'; exact hFg
  · simp [invoke, go_sem, eg]
  · refine (hit fn _ hfn hb hu hsz).mono ?_
    rintro e W2 ⟨⟨v, rfl⟩, (⟨hb2, hd⟩ | ⟨c, hb2, hd⟩)⟩
    · exact ⟨none, _, run_endLoop hb2.rec_ (by simp [recOf]), hdone _ _ hd (upd_put _ _ _ _ rfl) ((World.putObj_heap_other (by omega)).trans hb2.def_) ⟨_, World.putObj_heap_same hb2.lt⟩⟩
    · exact ⟨some c, _, run_endLoop hb2.rec_ (by simp [recOf]), hstop c _ _ hd (upd_put _ _ _ _ rfl) ((World.putObj_heap_other (by omega)).trans hb2.def_) ⟨_, World.putObj_heap_same hb2.lt⟩⟩
end Go.Proofs.YtoikhkanoffpfaaGreat
