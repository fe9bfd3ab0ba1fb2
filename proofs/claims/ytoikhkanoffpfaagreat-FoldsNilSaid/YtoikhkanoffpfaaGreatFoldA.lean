import Derived.Test.YtoikhkanoffpfaaGreatRow
namespace Go.Proofs.YtoikhkanoffpfaaGreat
open Go.RowKit
set_option linter.unusedVariables false
set_option linter.unusedSimpArgs false

/-! ### folds: clusters and breaks -/
def fbegB (c : Int) : Bool := c != 9 && !remB c
def fblankB (c : Int) : Bool := c == 13 || c == 12 || c == 11
def clB (i : Nat) (c : Int) : Bool := decide (i = 0) || fbegB c
def clStep (acc : List Int) (i : Nat) (c : Int) : List Int := if clB i c = true then acc ++ [(i : Int)] else acc
def clOf (xs : List Int) : List Int := upto clStep [] xs xs.length
def brB (xs cl : List Int) (k : Nat) : Bool := decide (k = 0) || (xs.getD (cl.getD k 0).toNat 0 != 13 && fblankB (xs.getD (cl.getD (k - 1) 0).toNat 0))
def brStep (xs cl : List Int) (acc : List Int) (k : Nat) (at_ : Int) : List Int := if brB xs cl k = true then acc ++ [at_] else acc
def brOf (xs : List Int) : List Int := upto (brStep xs (clOf xs)) [] (clOf xs) (clOf xs).length

theorem cl_le (xs : List Int) : ∀ k, (upto clStep [] xs k).length ≤ k
  | 0 => Nat.le_refl _
  | k + 1 => by
    have := cl_le xs k
    rw [upto_succ, clStep]
    split <;> simp <;> omega
theorem cl_range (xs : List Int) : ∀ k, ∀ x ∈ upto clStep [] xs k, 0 ≤ x ∧ x < k
  | 0 => by intro x hx; cases hx
  | k + 1 => by
    intro x hx
    rw [upto_succ, clStep] at hx
    split at hx
    · rcases List.mem_append.1 hx with h | h
      · have := cl_range xs k x h
        omega
      · simp at h; omega
    · have := cl_range xs k x hx
      omega
theorem br_le (xs cl ys : List Int) : ∀ k, (upto (brStep xs cl) [] ys k).length ≤ k
  | 0 => Nat.le_refl _
  | k + 1 => by
    have := br_le xs cl ys k
    rw [upto_succ, brStep]
    split <;> simp <;> omega

theorem folds_begins (c : Int) (w : World) : Calls Tryz.prog 27 #[.int .u8 c] w fun e w' => e = .returned (.bool (fbegB c)) ∧ w = w' := by
  go_enter Tryz.func27, Tryz.ntmps27
  go_wp2_with (first | (go_at_call 53; refine (spans_Removed _ _).mono ?_; rintro e w' ⟨rfl, rfl⟩))
  all_goals go_ret
  all_goals (refine ⟨?_, rfl⟩; simp; grind [fbegB])
theorem folds_blank (c : Int) (w : World) : Calls Tryz.prog 72 #[.int .u8 c] w fun e w' => e = .returned (.bool (fblankB c)) ∧ w = w' := by
  go_enter Tryz.func72, Tryz.ntmps72
  go_wp2
  all_goals go_ret
  all_goals (refine ⟨?_, rfl⟩; simp; grind [fblankB])

set_option maxHeartbeats 1000000 in
theorem folds_Clusters (v : Value) (xs : List Int) (D : Nat → Prop) (w : World) (h : SlI w D .u8 v xs) (hm : xs.length ≤ 1048576) :
    Calls Tryz.prog 10 #[v] w (Ret fun r w' => OwnI w' w.heap.size 3 .i64 r (clOf xs) ∧ Upd No w w') := by
  obtain ⟨A, c, rfl, hc⟩ := h.form
  have H := Lib.hid h
  clear h
  go_enter Tryz.func10, Tryz.ntmps10
  go_wp2
  go_loopw [3, 8] (fun v i wr => ∃ k : Nat, k ≤ xs.length ∧ i = .int .i64 k ∧ OwnI wr w.heap.size 3 .i64 v (upto clStep [] xs k) ∧ Upd No w wr) (fun _ i _ => xs.length - (intOf i).toNat)
  case atStart => exact ⟨0, Nat.zero_le _, rfl, OwnI.nil _ _ _ _, Upd.refl _ _⟩
  case round =>
    obtain ⟨k, hk, rfl, hown, hb⟩ := hrel
    by_cases hlt : k < xs.length
    · obtain ⟨ad, rfl, hcell⟩ := (H.out.upd hb (fun _ _ _ => id)).at_ hlt
      obtain ⟨x, hx⟩ := named (xs.getD k 0)
      rw [← hx.out] at hcell
      have hl := cl_le xs k
      have hbs := hb.size
      have key : ∀ v1 w1, OwnI w1 w.heap.size 3 .i64 v1 (upto clStep [] xs k ++ [(k : Int)]) → Upd No w w1 → clB k x = true → OwnI w1 w.heap.size 3 .i64 v1 (upto clStep [] xs (k + 1)) := by
        intro v1 w1 ho _ hc
        rw [upto_succ, ← hx.out, clStep, if_pos hc]
        exact ho
      have K := Lib.hid key
      clear key
      by_cases h0 : k = 0
      · subst h0
        have hc0 : wr.cell? ad = some (.int .u8 x) := by simpa [Addr.add] using hcell
        have hcl : Hid (clB 0 x = true) := by unfold Hid; simp [clB]
        go_wp2_with (first | (at_builtin; refine app_int w.heap.size rfl _ _ 29 3 .i64 8 rfl Tryz.underlying29 infoInt (by decide) _ _ _ hown rfl rfl rfl hbs (by omega) ?_; intro v1 w1 ho hg hat))
        go_roundw
        case rel => exact ⟨0 + 1, by omega, by go_num, K.out _ _ ho (hb.grown hg (fun b hb' hlt' => by have := (hown.lt hb').1; omega)) hcl.out, hb.grown hg (fun b hb' hlt' => by have := (hown.lt hb').1; omega)⟩
        case measure => simp [intOf]; omega
      · have hz : ((k : Int) == 0) = false := by simp; omega
        by_cases hr : fbegB x = true
        · have hcl : Hid (clB k x = true) := by unfold Hid; simp [clB, hr]
          go_wp2_with (first | (go_at_call 27; refine (folds_begins _ _).mono ?_; rintro e w' ⟨rfl, rfl⟩) | (at_builtin; refine app_int w.heap.size rfl _ _ 29 3 .i64 8 rfl Tryz.underlying29 infoInt (by decide) _ _ _ hown rfl rfl rfl hbs (by omega) ?_; intro v1 w1 ho hg hat))
          go_roundw
          case rel => exact ⟨k + 1, by omega, by go_num, K.out _ _ ho (hb.grown hg (fun b hb' hlt' => by have := (hown.lt hb').1; omega)) hcl.out, hb.grown hg (fun b hb' hlt' => by have := (hown.lt hb').1; omega)⟩
          case measure => simp [intOf]; omega
        · simp only [Bool.not_eq_true] at hr
          go_wp2_with (first | (go_at_call 27; refine (folds_begins _ _).mono ?_; rintro e w' ⟨rfl, rfl⟩))
          go_roundw
          case rel => exact ⟨k + 1, by omega, by go_num, by rw [upto_succ, ← hx.out, clStep, if_neg (by simp [clB, hr, h0])]; exact hown, hb⟩
          case measure => simp [intOf]; omega
    · have hk' : k = xs.length := by omega
      go_wp2
      go_ret
      exact Ret.mk ⟨by subst hk'; exact hown, hb⟩
end Go.Proofs.YtoikhkanoffpfaaGreat
