import Derived.Test.YtoikhkanoffpfaaGreatProg
import Derived.Test.YtoikhkanoffpfaaGreatMem
import Derived.Test.YtoikhkanoffpfaaGreatSpec
import Derived.Test.YtoikhkanoffpfaaGreatLeaf
namespace Go.Proofs.YtoikhkanoffpfaaGreat
open Go.RowKit
set_option linter.unusedVariables false
set_option linter.unusedSimpArgs false

theorem infoInt : (Tryz.prog.info? 3).map (fun i => (i.zero, i.size, i.bytes)) = some (some (.int .i64 0), 1, 8) := by kernel_rfl
theorem infoClass : (Tryz.prog.info? 22).map (fun i => (i.zero, i.size, i.bytes)) = some (some (.int .u8 0), 1, 1) := by kernel_rfl
theorem infoLevel : (Tryz.prog.info? 46).map (fun i => (i.zero, i.size, i.bytes)) = some (some (.int .i8 0), 1, 1) := by kernel_rfl

theorem clone_Level (v : Value) (xs : List Int) (D : Nat → Prop) (w : World) (h : SlI w D .i8 v xs) (hm : xs.length ≤ 140737488351232) :
    Calls Tryz.prog 49 #[v] w (Ret fun r w' => OwnI w' w.heap.size 46 .i8 r xs ∧ Upd No w w') := by
  obtain ⟨A, c, rfl, hc⟩ := h.form
  cases A with
  | none =>
    obtain rfl : xs = [] := by
      obtain ⟨A', c', hv, _, h⟩ := h
      injection hv with h1 h2 h3
      rcases h with h | ⟨ad, h, _⟩
      · exact h
      · rw [h] at h1; cases h1
    clear hm hc
    have hq := fun (w : World) => Lib.run_eql_slice_nil (P := Tryz.prog) w 41 46 none 0 c 0 0 Tryz.underlying41
    simp only [List.length_nil]
    go_enter Tryz.func49, Tryz.ntmps49
    go_wp2
    go_ret
    exact Ret.mk ⟨OwnI.nil _ _ _ _, Upd.refl _ _⟩
  | some ad =>
    have hq := fun (w : World) => Lib.run_eql_slice_nil (P := Tryz.prog) w 41 46 (some ad) xs.length c 0 0 Tryz.underlying41
    go_enter Tryz.func49, Tryz.ntmps49
    have H := h
    clear h
    have h1 : OwnI (w.alloc (.cells #[] 46)) w.heap.size 46 .i8 (.slice (some ⟨w.heap.size, 0, none⟩) 0 0) [] := World.ownsRow_made w #[] 0 (Nat.le_refl _) (by simp [maxLen]) (by simp)
    go_wp2_with (at_builtin; refine app_row w.heap.size rfl _ _ 41 46 .i8 1 rfl Tryz.underlying41 infoLevel (by decide) _ [] xs D _ h1 (H.upd ((Upd.refl No w).alloc _) (fun _ _ _ => id)) rfl rfl (by simp) (by simp; omega) ?_; intro v1 w1 ho hg hat)
    go_ret
    refine Ret.mk ⟨ho, ((Upd.refl No w).alloc _).grown hg ?_⟩
    intro k hk hlt
    have hk' : some w.heap.size = some k := hk
    injection hk'
    omega

theorem clone_Class (v : Value) (xs : List Int) (D : Nat → Prop) (w : World) (h : SlI w D .u8 v xs) (hm : xs.length ≤ 140737488351232) :
    Calls Tryz.prog 58 #[v] w (Ret fun r w' => OwnI w' w.heap.size 22 .u8 r xs ∧ Upd No w w') := by
  obtain ⟨A, c, rfl, hc⟩ := h.form
  cases A with
  | none =>
    obtain rfl : xs = [] := by
      obtain ⟨A', c', hv, _, h⟩ := h
      injection hv with h1 h2 h3
      rcases h with h | ⟨ad, h, _⟩
      · exact h
      · rw [h] at h1; cases h1
    clear hm hc
    have hq := fun (w : World) => Lib.run_eql_slice_nil (P := Tryz.prog) w 37 22 none 0 c 0 0 Tryz.underlying37
    simp only [List.length_nil]
    go_enter Tryz.func58, Tryz.ntmps58
    go_wp2
    go_ret
    exact Ret.mk ⟨OwnI.nil _ _ _ _, Upd.refl _ _⟩
  | some ad =>
    have hq := fun (w : World) => Lib.run_eql_slice_nil (P := Tryz.prog) w 37 22 (some ad) xs.length c 0 0 Tryz.underlying37
    go_enter Tryz.func58, Tryz.ntmps58
    have H := h
    clear h
    have h1 : OwnI (w.alloc (.cells #[] 22)) w.heap.size 22 .u8 (.slice (some ⟨w.heap.size, 0, none⟩) 0 0) [] := World.ownsRow_made w #[] 0 (Nat.le_refl _) (by simp [maxLen]) (by simp)
    go_wp2_with (at_builtin; refine app_row w.heap.size rfl _ _ 37 22 .u8 1 rfl Tryz.underlying37 infoClass (by decide) _ [] xs D _ h1 (H.upd ((Upd.refl No w).alloc _) (fun _ _ _ => id)) rfl rfl (by simp) (by simp; omega) ?_; intro v1 w1 ho hg hat)
    go_ret
    refine Ret.mk ⟨ho, ((Upd.refl No w).alloc _).grown hg ?_⟩
    intro k hk hlt
    have hk' : some w.heap.size = some k := hk
    injection hk'
    omega

theorem clone_Int (v : Value) (xs : List Int) (D : Nat → Prop) (w : World) (h : SlI w D .i64 v xs) (hm : xs.length ≤ 17592186044416) :
    Calls Tryz.prog 40 #[v] w (Ret fun r w' => OwnI w' w.heap.size 3 .i64 r xs ∧ Upd No w w') := by
  obtain ⟨A, c, rfl, hc⟩ := h.form
  cases A with
  | none =>
    obtain rfl : xs = [] := by
      obtain ⟨A', c', hv, _, h⟩ := h
      injection hv with h1 h2 h3
      rcases h with h | ⟨ad, h, _⟩
      · exact h
      · rw [h] at h1; cases h1
    clear hm hc
    have hq := fun (w : World) => Lib.run_eql_slice_nil (P := Tryz.prog) w 29 3 none 0 c 0 0 Tryz.underlying29
    simp only [List.length_nil]
    go_enter Tryz.func40, Tryz.ntmps40
    go_wp2
    go_ret
    exact Ret.mk ⟨OwnI.nil _ _ _ _, Upd.refl _ _⟩
  | some ad =>
    have hq := fun (w : World) => Lib.run_eql_slice_nil (P := Tryz.prog) w 29 3 (some ad) xs.length c 0 0 Tryz.underlying29
    go_enter Tryz.func40, Tryz.ntmps40
    have H := h
    clear h
    have h1 : OwnI (w.alloc (.cells #[] 3)) w.heap.size 3 .i64 (.slice (some ⟨w.heap.size, 0, none⟩) 0 0) [] := World.ownsRow_made w #[] 0 (Nat.le_refl _) (by simp [maxLen]) (by simp)
    go_wp2_with (at_builtin; refine app_row w.heap.size rfl _ _ 29 3 .i64 8 rfl Tryz.underlying29 infoInt (by decide) _ [] xs D _ h1 (H.upd ((Upd.refl No w).alloc _) (fun _ _ _ => id)) rfl rfl (by simp) (by simp; omega) ?_; intro v1 w1 ho hg hat)
    go_ret
    refine Ret.mk ⟨ho, ((Upd.refl No w).alloc _).grown hg ?_⟩
    intro k hk hlt
    have hk' : some w.heap.size = some k := hk
    injection hk'
    omega

theorem spans_Kept (v : Value) (xs : List Int) (D : Nat → Prop) (w : World) (h : SlI w D .u8 v xs) (hm : xs.length ≤ 1048576) :
    Calls Tryz.prog 81 #[v] w (Ret fun r w' => OwnI w' w.heap.size 3 .i64 r (keptOf xs) ∧ Upd No w w') := by
  obtain ⟨A, c, rfl, hc⟩ := h.form
  have H := Lib.hid h
  clear h
  go_enter Tryz.func81, Tryz.ntmps81
  go_wp2
  go_loopw [3, 8] (fun v i wr => ∃ k : Nat, k ≤ xs.length ∧ i = .int .i64 k ∧ OwnI wr w.heap.size 3 .i64 v (upto keptStep [] xs k) ∧ Upd No w wr) (fun _ i _ => xs.length - (intOf i).toNat)
  case atStart => exact ⟨0, Nat.zero_le _, rfl, OwnI.nil _ _ _ _, Upd.refl _ _⟩
  case round =>
    obtain ⟨k, hk, rfl, hown, hb⟩ := hrel
    by_cases hlt : k < xs.length
    · obtain ⟨ad, rfl, hcell⟩ := (H.out.upd hb (fun _ _ _ => id)).at_ hlt
      obtain ⟨x, hx⟩ := named (xs.getD k 0)
      rw [← hx.out] at hcell
      have hl := kept_le xs k
      have hbs := hb.size
      by_cases hr : remB x = true
      · go_wp2_with (first | (go_at_call 53; refine (spans_Removed _ _).mono ?_; rintro e w' ⟨rfl, rfl⟩))
        go_roundw
        case rel => exact ⟨k + 1, by omega, by go_num, by rw [upto_succ, ← hx.out, keptStep, if_pos hr]; exact hown, hb⟩
        case measure => simp [intOf]; omega
      · simp only [Bool.not_eq_true] at hr
        go_wp2_with (first | (go_at_call 53; refine (spans_Removed _ _).mono ?_; rintro e w' ⟨rfl, rfl⟩) | (at_builtin; refine app_int w.heap.size rfl _ _ 29 3 .i64 8 rfl Tryz.underlying29 infoInt (by decide) _ _ _ hown rfl rfl rfl hbs (by omega) ?_; intro v1 w1 ho hg hat))
        go_roundw
        case rel => exact ⟨k + 1, by omega, by go_num, by rw [upto_succ, ← hx.out, keptStep, if_neg (by simp [hr])]; exact ho, hb.grown hg (fun b hb' hlt' => by have := (hown.lt hb').1; omega)⟩
        case measure => simp [intOf]; omega
    · have hk' : k = xs.length := by omega
      go_wp2
      go_ret
      exact Ret.mk ⟨by subst hk'; exact hown, hb⟩
end Go.Proofs.YtoikhkanoffpfaaGreat
