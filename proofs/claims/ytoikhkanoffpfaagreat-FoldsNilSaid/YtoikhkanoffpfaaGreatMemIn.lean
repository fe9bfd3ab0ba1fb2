import Derived.Test.YtoikhkanoffpfaaGreatMem
import Derived.Test.YtoikhkanoffpfaaGreatRange
import Derived.Maps.OwnIn
namespace Go.Proofs.YtoikhkanoffpfaaGreat
open Go.RowKit Go.Shelf
set_option linter.unusedVariables false
/-! ### append of one whole number, within a fence -/
section
variable {F : Fence} {n : Nat} {P : Program} {ops : Array Oper} {rest : List Oper} {o : Oper} {a : Act} {Q : Exit → Act → World → Prop}
theorem app_intIn {W : World} (base : Nat) (hgd : o.guard = none) (s x : Operand) (t e : TypeId) (k : IntKind) (bytes : Nat)
    (ho : o.op = .call { callee := .builtin .append, args := #[s, x], argTypes := #[t, t] })
    (ht : P.underlying t = some (.slice e)) (hinfo : (P.info? e).map (fun i => (i.zero, i.size, i.bytes)) = some (some (.int k 0), 1, bytes)) (hb0 : 0 < bytes)
    (v : Value) (xs : List Int) (y : Int) (HO : OwnI W base e k v xs) (hs : a.eval s = v) {B : Nat} (hx : a.eval x = .slice (some ⟨B, 0, none⟩) 1 1) (hB : W.heap.size = B)
    (hbase : base ≤ W.heap.size) (hl : (xs.length + 1) * bytes ≤ 140737488355328)
    (h : ∀ v1 w1, OwnI w1 base e k v1 (xs ++ [y]) → W.grownBy w1 v.ownBlock → (v1.ownBlock = v.ownBlock ∨ ∃ b, v1.ownBlock = some b ∧ W.heap.size ≤ b) → wpListIn F n P ops Q rest (a.put o.dst v1) w1) :
    wpListIn F n P ops Q (o :: rest) a (W.alloc (.cells #[.int k y] e)) := by
  subst hB
  obtain ⟨i0, hi, hz0, hz1, hz2⟩ := info_parts hinfo
  have hlen : xs.length + 1 ≤ 140737488355328 := Nat.le_trans (Nat.le_mul_of_pos_right _ hb0) hl
  refine wpListIn_append_own_at (W.alloc (.cells #[.int k y] e)) hgd s x t ho base e i0 (.int k 0) 1 bytes ht hi hz0 hz1 hz2 rfl (by omega) v xs.length _ hs (HO.alloc _) ⟨W.heap.size, 0, none⟩ 1 1 [.int k y] hx rfl
    (World.news_of_block (cs := #[.int k y]) (t := e) (fr := (0, 0)) (heap_alloc_new W _)) (by simp [Value.oneCell']) (by simp only [maxLen]; omega) hl (by simp; omega) ?_
  intro v1 w1 hown hg _ hat
  refine h v1 w1 (by unfold OwnI; simpa using hown) (World.grownBy.trans (World.grownBy_alloc W _ _) hg) ?_
  rcases hat with hat | hat
  · exact .inl hat
  · exact .inr ⟨_, hat, by simp⟩

/-- a round that goes on, its record a name -/
theorem yield_on {W : World} {D : Nat} {fn : FuncId} {tmps : Array Value} {ps : Array Tmp} {assign body : Code} {args : Array Value} {R : Ending → World → Prop} {rc : Loop}
    (hfn : F.fn fn) (hrc : rc = recOf fn tmps ps assign body D .ready none) (hb : Book W D rc) (hps : args.size = ps.size)
    (h : assign.wpIn (F.inRound (D + 1)) n P (Exit.then (fun a1 W1 => Book W1 D rc ∧ ∀ W5 rb, Upd (fun k => k = D + 1) W1 W5 → Book W5 D rb →
        body.wpIn (F.inRound (D + 1)) n P (fun e a2 W2 => e = .normal ∧ Book W2 D rb ∧ ∀ W3, Upd (fun k => k = D + 1) W2 W3 → Book W3 D rc → R (.returned (.bool true)) W3) a1 W5) (fun _ _ _ => False))
      { tmps := (ps.zip args).foldl (fun t (p, v) => t.setIfInBounds p v) tmps, defers := [] } W) :
    YieldAt F n P (D + 1) args W R := by
  subst hrc
  refine yield_round hfn hb hps (wpIn_mono h ?_)
  rintro e a1 W1 hq
  cases e with
  | normal =>
    obtain ⟨hb1, hbody⟩ := hq
    refine ⟨hb1, wpIn_mono (hbody _ _ (upd_put _ _ _ _ rfl) (hb1.put _)) ?_⟩
    rintro e2 a2 W2 ⟨rfl, hb2, hR⟩
    exact ⟨hb2, hR _ (upd_put _ _ _ _ rfl) (hb2.put _)⟩
  | _ => exact hq.elim
end
end Go.Proofs.YtoikhkanoffpfaaGreat
