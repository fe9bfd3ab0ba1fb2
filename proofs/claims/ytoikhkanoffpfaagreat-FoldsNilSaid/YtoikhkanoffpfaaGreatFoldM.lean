import Derived.Test.YtoikhkanoffpfaaGreatFoldL
namespace Go.Proofs.YtoikhkanoffpfaaGreat
open Go.RowKit Go.Shelf Go.Lib
attribute [local go_sem ↓] Go.wp_at_zero Go.wp_at_succ
set_option linter.unusedVariables false
set_option linter.unusedSimpArgs false

/-! ### open, plain -/
def sumSeg (wd : List Int) (a : Nat) : Nat → Int
  | 0 => 0
  | n + 1 => sumSeg wd a n + wd.getD (a + n) 0
def clTo' (n : Nat) (cl : List Int) (k : Nat) : Int := if k + 1 < cl.length then cl.getD (k + 1) 0 else n
def widAt (wd : List Int) (n : Nat) (cl : List Int) (k : Nat) : Int := sumSeg wd (cl.getD k 0).toNat (clTo' n cl k - cl.getD k 0).toNat
def widTo (wd : List Int) (n : Nat) (cl : List Int) (k : Nat) : List Int := (List.range k).map (widAt wd n cl)
def widOf (xs wd : List Int) : List Int := widTo wd xs.length (clOf xs) (clOf xs).length
theorem widTo_succ (wd : List Int) (n : Nat) (cl : List Int) (k : Nat) : widTo wd n cl (k + 1) = widTo wd n cl k ++ [widAt wd n cl k] := by simp [widTo, List.range_succ]
theorem widTo_len (wd : List Int) (n : Nat) (cl : List Int) (k : Nat) : (widTo wd n cl k).length = k := by simp [widTo]
theorem sumSeg_bd (wd : List Int) (a : Nat) (hw : ∀ i, 0 ≤ wd.getD i 0 ∧ wd.getD i 0 ≤ 1048576) : ∀ n : Nat, 0 ≤ sumSeg wd a n ∧ sumSeg wd a n ≤ 1048576 * (n : Int)
  | 0 => by simp [sumSeg]
  | n + 1 => by
    have h1 := sumSeg_bd wd a hw n
    have h2 := hw (a + n)
    simp only [sumSeg]
    omega
theorem upto_cl_mono (xs : List Int) : ∀ k i j, i < j → j < (upto clStep [] xs k).length → (upto clStep [] xs k).getD i 0 < (upto clStep [] xs k).getD j 0
  | 0, i, j, h, hj => by simp [upto] at hj
  | k + 1, i, j, h, hj => by
    have ih := upto_cl_mono xs k
    have hr := cl_range xs k
    rw [upto_succ, clStep] at hj ⊢
    split at hj
    · rename_i hc
      rw [if_pos hc]
      generalize upto clStep [] xs k = l at *
      simp only [List.length_append, List.length_singleton] at hj
      by_cases hjl : j < l.length
      · have e1 : (l ++ [(k : Int)]).getD i 0 = l.getD i 0 := by simp only [List.getD_eq_getElem?_getD]; rw [List.getElem?_append_left (by omega)]
        have e2 : (l ++ [(k : Int)]).getD j 0 = l.getD j 0 := by simp only [List.getD_eq_getElem?_getD]; rw [List.getElem?_append_left hjl]
        rw [e1, e2]
        exact ih i j h hjl
      · have hj2 : j = l.length := by omega
        subst hj2
        have e1 : (l ++ [(k : Int)]).getD i 0 = l.getD i 0 := by simp only [List.getD_eq_getElem?_getD]; rw [List.getElem?_append_left h]
        have e2 : (l ++ [(k : Int)]).getD l.length 0 = k := by simp
        rw [e1, e2]
        exact (hr _ (by rw [List.getD_eq_getElem?_getD, List.getElem?_eq_getElem h]; exact List.getElem_mem h)).2
    · rename_i hc
      rw [if_neg hc]
      exact ih i j h hj
theorem cl_mono (xs : List Int) (i j : Nat) (h : i < j) (hj : j < (clOf xs).length) : (clOf xs).getD i 0 < (clOf xs).getD j 0 := upto_cl_mono xs xs.length i j h hj
theorem clTo_bd (xs : List Int) (k : Nat) (hk : k < (clOf xs).length) : (clOf xs).getD k 0 ≤ clTo' xs.length (clOf xs) k ∧ clTo' xs.length (clOf xs) k ≤ xs.length := by
  have h1 := cl_get xs k hk
  unfold clTo'
  split
  · rename_i h
    have h2 := cl_mono xs k (k + 1) (by omega) h
    have h3 := cl_get xs (k + 1) h
    omega
  · omega
theorem any_bad {wd : List Int} (h : wd.any badW = false) (i : Nat) : 0 ≤ wd.getD i 0 ∧ wd.getD i 0 ≤ 1048576 := by
  by_cases hi : i < wd.length
  · have := List.any_eq_false.1 h (wd.getD i 0) (by rw [List.getD_eq_getElem?_getD, List.getElem?_eq_getElem hi]; exact List.getElem_mem hi)
    simp [badW] at this
    rw [List.getD_eq_getElem?_getD]
    omega
  · rw [List.getD_eq_getElem?_getD, List.getElem?_eq_none (by omega)]
    simp
theorem paper_ok (xs wd : List Int) (hn : xs.length ≤ 1048576) (h : wd.any badW = false) : PaperOk xs (clOf xs) (widOf xs wd) := by
  refine ⟨hn, cl_le xs xs.length, widTo_len _ _ _ _, cl_get xs, fun i hi => ?_⟩
  unfold widOf at hi ⊢
  rw [widTo_len] at hi
  have e : (widTo wd xs.length (clOf xs) (clOf xs).length).getD i 0 = widAt wd xs.length (clOf xs) i := by
    simp [widTo, List.getD_eq_getElem?_getD, hi]
  rw [e]
  have h1 := cl_get xs i hi
  have h2 := clTo_bd xs i hi
  have h3 := sumSeg_bd wd ((clOf xs).getD i 0).toNat (any_bad h) (clTo' xs.length (clOf xs) i - (clOf xs).getD i 0).toNat
  unfold widAt
  omega

theorem widths_call (v : Value) (wd : List Int) (D : Nat → Prop) (w : World) (hf : Flat v) (h : SlI w D .i64 v wd) (hm : wd.length ≤ 1048576) :
    Calls Tryz.prog 44 #[v, .func (.func 45) #[] #[]] w fun e w' => e = .returned (.bool (wd.any badW)) ∧ Upd No w w' := by
  rcases h.flat_form hf with ⟨rfl, A, c, rfl⟩ | ⟨b, off, c, rfl, hc, hpos, hD⟩
  · exact (widths_none A c _ w).mono fun e w' ⟨h1, h2⟩ => ⟨by rw [h1]; rfl, by rw [h2]; exact Upd.refl _ _⟩
  · exact (widths_any b off c wd w hm (fun j hj => h.flat_at hj)).mono fun e w' ⟨h1, q, h2⟩ => ⟨h1, by rw [h2]; exact (Upd.refl _ _).drewN q⟩
end Go.Proofs.YtoikhkanoffpfaaGreat
