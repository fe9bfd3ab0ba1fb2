import Derived.Test.YtoikhkanoffpfaaGreatFoldA
namespace Go.Proofs.YtoikhkanoffpfaaGreat
open Go.RowKit
set_option linter.unusedVariables false
set_option linter.unusedSimpArgs false

set_option maxHeartbeats 1000000 in
theorem folds_breaks (v u : Value) (xs cl : List Int) (D E : Nat → Prop) (k : Nat) (w : World) (h : SlI w D .u8 v xs) (h2 : SlI w E .i64 u cl) (hk : k < cl.length) (hm : xs.length ≤ 1048576) (hm2 : cl.length ≤ xs.length)
    (hr : ∀ i, i < cl.length → 0 ≤ cl.getD i 0 ∧ cl.getD i 0 < xs.length) :
    Calls Tryz.prog 43 #[v, u, .int .i64 k] w fun e w' => e = .returned (.bool (brB xs cl k)) ∧ w = w' := by
  obtain ⟨A, c, rfl, hc⟩ := h.form
  obtain ⟨A2, c2, rfl, hc2⟩ := h2.form
  cases k with
  | zero =>
    go_enter Tryz.func43, Tryz.ntmps43
    go_wp2
    go_ret
    simp [brB]
  | succ j =>
    obtain ⟨Y, hY⟩ : ∃ Y : Nat, cl.getD (j + 1) 0 = Y := ⟨(cl.getD (j + 1) 0).toNat, by have := hr (j + 1) hk; omega⟩
    obtain ⟨Z, hZ⟩ : ∃ Z : Nat, cl.getD j 0 = Z := ⟨(cl.getD j 0).toNat, by have := hr j (by omega); omega⟩
    have hYl : Y < xs.length := by have := hr (j + 1) hk; omega
    have hZl : Z < xs.length := by have := hr j (by omega); omega
    obtain ⟨ad, rfl, hy⟩ := h.at_ hYl
    obtain ⟨_, e, hz⟩ := h.at_ hZl
    cases e
    obtain ⟨ad2, rfl, hy2⟩ := h2.at_ hk
    obtain ⟨_, e, hz2⟩ := h2.at_ (i := j) (by omega)
    cases e
    rw [hY] at hy2
    rw [hZ] at hz2
    have hbr : brB xs cl (j + 1) = (xs.getD Y 0 != 13 && fblankB (xs.getD Z 0)) := by simp only [brB, hY, hZ, Nat.add_sub_cancel, Int.toNat_natCast]; simp
    obtain ⟨x, hx⟩ := named (xs.getD Y 0)
    obtain ⟨z, hz'⟩ := named (xs.getD Z 0)
    rw [← hx.out, ← hz'.out] at hbr
    rw [← hx.out] at hy
    rw [← hz'.out] at hz
    rw [hbr]
    clear hbr hr hY hZ h h2
    rw [show ((j + 1 : Nat) : Int) = (j : Int) + 1 from by simp]
    have e0 : ((j : Int) + 1 == 0) = false := by simp; omega
    have e1 : IntKind.i64.wrap ((j : Int) + 1 - 1) = (j : Int) := by rw [IntWalk.i64_in _ (by omega)]; omega
    have e2 : ((j : Int) + 1).toNat = j + 1 := by omega
    have e3 : 0 ≤ (j : Int) + 1 := by omega
    have e4 : (j : Int) + 1 < cl.length := by omega
    have hy2' : w.cell? ⟨ad2.block, ad2.off + (j + 1), none⟩ = some (.int .i64 Y) := by simpa [Addr.add] using hy2
    by_cases h13 : x = 13
    · subst h13
      go_enter Tryz.func43, Tryz.ntmps43
      go_wp2
      go_ret
      simp
    · have h13' : (x == 13) = false := by simpa using h13
      go_enter Tryz.func43, Tryz.ntmps43
      go_wp2_with (first | (go_at_call 72; refine (folds_blank _ _).mono ?_; rintro e w' ⟨rfl, rfl⟩))
      go_ret
      simp [h13']

theorem cl_get (xs : List Int) (i : Nat) (hi : i < (clOf xs).length) : 0 ≤ (clOf xs).getD i 0 ∧ (clOf xs).getD i 0 < xs.length := by
  have := cl_range xs xs.length ((clOf xs).getD i 0) (by rw [List.getD_eq_getElem?_getD, List.getElem?_eq_getElem hi]; exact List.getElem_mem hi)
  exact this

set_option maxHeartbeats 1000000 in
theorem folds_Breaks (v : Value) (xs : List Int) (D : Nat → Prop) (w : World) (h : SlI w D .u8 v xs) (hm : xs.length ≤ 1048576) :
    Calls Tryz.prog 21 #[v] w (Ret fun r w' => OwnI w' w.heap.size 3 .i64 r (brOf xs) ∧ Upd No w w') := by
  obtain ⟨A, c, rfl, hc⟩ := h.form
  have H := Lib.hid h
  clear h
  go_enter Tryz.func21, Tryz.ntmps21
  have hcll : (clOf xs).length ≤ xs.length := cl_le xs xs.length
  have HR := cl_get xs
  have HC := folds_Clusters _ xs D w H.out hm
  obtain ⟨cl, hcN⟩ := named (clOf xs)
  have hbr : Hid (brOf xs = upto (brStep xs cl) [] cl cl.length) := by unfold Hid; rw [hcN.out]; rfl
  rw [← hcN.out] at HR hcll HC
  have HR := Lib.hid HR
  go_wp2_with (go_at_call 10; refine HC.mono ?_; rintro e w1 ⟨cv, rfl, hcl, hu1⟩; obtain ⟨A2, c2, rfl, hc2⟩ := hcl.sl.form)
  have hs1 := hu1.size
  have hcs := hcl.sl
  go_loopw [4, 11] (fun v i wr => ∃ k : Nat, k ≤ cl.length ∧ i = .int .i64 k ∧ OwnI wr w1.heap.size 3 .i64 v (upto (brStep xs cl) [] cl k) ∧ Upd No w1 wr) (fun _ i _ => cl.length - (intOf i).toNat)
  case atStart => exact ⟨0, Nat.zero_le _, rfl, OwnI.nil _ _ _ _, Upd.refl _ _⟩
  case round =>
    obtain ⟨k, hk, rfl, hown, hb⟩ := hrel
    by_cases hlt : k < cl.length
    · obtain ⟨ad, rfl, hcell⟩ := (hcs.upd hb (fun _ _ _ => id)).at_ hlt
      obtain ⟨x, hx⟩ := named (cl.getD k 0)
      rw [← hx.out] at hcell
      have hl := br_le xs cl cl k
      have hbs := hb.size
      have hst : Hid (upto (brStep xs cl) [] cl (k + 1) = if brB xs cl k = true then upto (brStep xs cl) [] cl k ++ [x] else upto (brStep xs cl) [] cl k) := by unfold Hid; rw [upto_succ, ← hx.out]; rfl
      have hbk := folds_breaks _ _ xs cl _ _ k wr (H.out.upd (hu1.no hb) (fun _ _ _ => id)) (hcs.upd hb (fun _ _ _ => id)) hlt hm hcll HR.out
      obtain ⟨bo, hbo⟩ := named (brB xs cl k)
      rw [← hbo.out] at hbk hst
      cases bo
      · go_wp2_with (first | (go_at_call 43; refine hbk.mono ?_; rintro e w' ⟨rfl, rfl⟩))
        go_roundw
        case rel => exact ⟨k + 1, by omega, by go_num, by rw [hst.out]; exact hown, hb⟩
        case measure => simp [intOf]; omega
      · go_wp2_with (first | (go_at_call 43; refine hbk.mono ?_; rintro e w' ⟨rfl, rfl⟩) | (at_builtin; refine app_int w1.heap.size rfl _ _ 29 3 .i64 8 rfl Tryz.underlying29 infoInt (by decide) _ _ _ hown rfl rfl rfl hbs (by omega) ?_; intro v1 w2 ho hg hat))
        go_roundw
        case rel => exact ⟨k + 1, by omega, by go_num, by rw [hst.out]; exact ho, hb.grown hg (fun b hb' hlt' => by have := (hown.lt hb').1; omega)⟩
        case measure => simp [intOf]; omega
    · have hk' : k = cl.length := by omega
      go_wp2
      go_ret
      exact Ret.mk ⟨by rw [hbr.out]; subst hk'; exact hown.base (fun g hg => Nat.le_trans hs1 (hown.lt hg).1), hu1.no hb⟩
end Go.Proofs.YtoikhkanoffpfaaGreat
