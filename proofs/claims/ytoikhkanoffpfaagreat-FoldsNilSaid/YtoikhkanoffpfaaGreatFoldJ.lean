import Derived.Test.YtoikhkanoffpfaaGreatFoldI
import Derived.Test.YtoikhkanoffpfaaGreatFoldD
namespace Go.Proofs.YtoikhkanoffpfaaGreat
open Go.RowKit Go.Shelf Go.Lib
attribute [local go_sem ↓] Go.wp_at_zero Go.wp_at_succ
set_option linter.unusedVariables false
set_option linter.unusedSimpArgs false

/-! ### fold, plain -/
structure FS where
  la : Int
  lw : Int
  oa : Int
  ow : Int
  sum : Int
  wid : Int
def FS.init : FS := ⟨0, 0, 0, 0, 0, 0⟩
/-- loose and last, at a cluster -/
def fsSet (xs cl : List Int) (start k : Nat) (s : FS) : FS :=
  if start < k then (if brB xs cl k = true then { s with oa := k, ow := s.wid, la := k, lw := s.wid } else { s with oa := k, ow := s.wid }) else s
def fsAdd (ws : List Int) (k : Nat) (s : FS) : FS := { s with sum := s.sum + ws.getD k 0 }
def fsGo (xs cl ws : List Int) (most : Int) (start : Nat) : Nat → Nat → FS → Nat × FS
  | 0, k, s => (k, s)
  | d + 1, k, s =>
    let s2 := fsAdd ws k (fsSet xs cl start k s)
    if kBlank xs cl k = true then fsGo xs cl ws most start d (k + 1) s2
    else if most < s2.sum then (k, s2)
    else fsGo xs cl ws most start d (k + 1) { s2 with wid := s2.sum }
def fsEnd (xs cl ws : List Int) (start : Nat) (r : Nat × FS) : Int × Int :=
  if r.1 = cl.length then ((r.1 : Int), r.2.wid) else if 0 < r.2.la then (r.2.la, r.2.lw) else if 0 < r.2.oa then (r.2.oa, r.2.ow) else loneOf xs cl ws start
def foldOf (xs cl ws : List Int) (most : Int) (start : Nat) : Int × Int := fsEnd xs cl ws start (fsGo xs cl ws most start (cl.length - start) start FS.init)

/-- what holds of the numbers at a cluster -/
structure FsOk (n start k : Nat) (s : FS) : Prop where
  la : s.la = 0 ∨ ((start : Int) < s.la ∧ s.la ≤ k ∧ s.la < n)
  oa : s.oa = 0 ∨ ((start : Int) < s.oa ∧ s.oa ≤ k ∧ s.oa < n)
  lw : 0 ≤ s.lw ∧ s.lw ≤ 1099511627776 * (k : Int)
  ow : 0 ≤ s.ow ∧ s.ow ≤ 1099511627776 * (k : Int)
  sum : 0 ≤ s.sum ∧ s.sum ≤ 1099511627776 * (k : Int)
  wid : 0 ≤ s.wid ∧ s.wid ≤ 1099511627776 * (k : Int)
theorem FsOk.init (n start : Nat) : FsOk n start start FS.init := ⟨.inl rfl, .inl rfl, by simp [FS.init]; omega, by simp [FS.init]; omega, by simp [FS.init]; omega, by simp [FS.init]; omega⟩
theorem FsOk.set {n start k : Nat} {s : FS} {xs cl : List Int} (h : FsOk n start k s) (hk : k < n) (hs : start ≤ k) : FsOk n start k (fsSet xs cl start k s) ∧ (fsSet xs cl start k s).sum = s.sum ∧ (fsSet xs cl start k s).wid = s.wid ∧ ((fsSet xs cl start k s).oa = 0 → k = start) := by
  obtain ⟨h1, h2, h4, h5, h6, h7⟩ := h
  unfold fsSet
  split
  · split
    · exact ⟨⟨.inr (by simp only; omega), .inr (by simp only; omega), h7, h7, h6, h7⟩, rfl, rfl, fun e => by simp only at e; omega⟩
    · exact ⟨⟨h1, .inr (by simp only; omega), h4, h7, h6, h7⟩, rfl, rfl, fun e => by simp only at e; omega⟩
  · exact ⟨⟨h1, h2, h4, h5, h6, h7⟩, rfl, rfl, fun _ => by omega⟩
theorem FsOk.next {n start k : Nat} {s : FS} {xs cl ws : List Int} (h : FsOk n start k s) (hk : k < n) (hs : start ≤ k) (hw : 0 ≤ ws.getD k 0 ∧ ws.getD k 0 ≤ 1099511627776) :
    FsOk n start (k + 1) (fsAdd ws k (fsSet xs cl start k s)) ∧ FsOk n start (k + 1) { fsAdd ws k (fsSet xs cl start k s) with wid := (fsAdd ws k (fsSet xs cl start k s)).sum } := by
  obtain ⟨⟨h1, h2, h4, h5, h6, h7⟩, e1, e2, e3⟩ := h.set (xs := xs) (cl := cl) hk hs
  generalize fsSet xs cl start k s = t at *
  unfold fsAdd
  refine ⟨⟨?_, ?_, ?_, ?_, ?_, ?_⟩, ⟨?_, ?_, ?_, ?_, ?_, ?_⟩⟩ <;> simp only <;> omega
theorem fsGo_ok (xs cl ws : List Int) (most : Int) (start : Nat) (hw : ∀ i, i < cl.length → 0 ≤ ws.getD i 0 ∧ ws.getD i 0 ≤ 1099511627776) : ∀ d k s, k + d = cl.length → start ≤ k → FsOk cl.length start k s →
    ∃ j s', fsGo xs cl ws most start d k s = (j, s') ∧ k ≤ j ∧ j ≤ cl.length ∧ FsOk cl.length start (j + 1) s' ∧ (j < cl.length → s'.oa = 0 → j = start)
  | 0, k, s, hk, hs, h => ⟨k, s, rfl, Nat.le_refl _, by omega, by
      obtain ⟨h1, h2, h4, h5, h6, h7⟩ := h
      refine ⟨?_, ?_, ?_, ?_, ?_, ?_⟩ <;> omega, fun hlt => by omega⟩
  | d + 1, k, s, hk, hs, h => by
    obtain ⟨n1, n2⟩ := h.next (xs := xs) (cl := cl) (ws := ws) (by omega) hs (hw k (by omega))
    obtain ⟨q1, q2, q3, q4⟩ := h.set (xs := xs) (cl := cl) (by omega) hs
    simp only [fsGo]
    split
    · obtain ⟨j, s', e, a, b⟩ := fsGo_ok xs cl ws most start hw d (k + 1) _ (by omega) (by omega) n1
      exact ⟨j, s', e, by omega, b⟩
    · split
      · exact ⟨k, _, rfl, Nat.le_refl _, by omega, n1, fun _ e => q4 e⟩
      · obtain ⟨j, s', e, a, b⟩ := fsGo_ok xs cl ws most start hw d (k + 1) _ (by omega) (by omega) n2
        exact ⟨j, s', e, by omega, b⟩
/-- the next line begins behind this one, and not behind the last cluster's end; its width is bounded -/
theorem foldOf_ok (xs cl ws : List Int) (most : Int) (start : Nat) (hs : start < cl.length) (hw : ∀ i, i < cl.length → 0 ≤ ws.getD i 0 ∧ ws.getD i 0 ≤ 1099511627776) :
    (start : Int) < (foldOf xs cl ws most start).1 ∧ (foldOf xs cl ws most start).1 ≤ cl.length ∧ 0 ≤ (foldOf xs cl ws most start).2 ∧ (foldOf xs cl ws most start).2 ≤ 1099511627776 * (cl.length + 1 : Int) := by
  obtain ⟨j, s', e, h1, h2, ⟨a1, a2, a4, a5, a6, a7⟩, h4⟩ := fsGo_ok xs cl ws most start hw (cl.length - start) start FS.init (by omega) (Nat.le_refl _) (FsOk.init _ _)
  unfold foldOf
  rw [e]
  unfold fsEnd
  simp only
  split
  · omega
  · split
    · omega
    · split
      · omega
      · have := hw start hs
        unfold loneOf
        simp only
        split <;> omega
end Go.Proofs.YtoikhkanoffpfaaGreat
