import Derived.Test.YtoikhkanoffpfaaGreatFoldN
namespace Go.Proofs.YtoikhkanoffpfaaGreat
open Go.RowKit Go.Shelf Go.Lib
attribute [local go_sem ↓] Go.wp_at_zero Go.wp_at_succ
set_option linter.unusedVariables false
set_option linter.unusedSimpArgs false

theorem lnGo_range (xs cl ws : List Int) (most : Int) (hw : ∀ i, i < cl.length → 0 ≤ ws.getD i 0 ∧ ws.getD i 0 ≤ 1099511627776) : ∀ d k (acc : List Int × List Int), (∀ x : Int, x ∈ acc.1 → 0 ≤ x ∧ x < cl.length) → ∀ x : Int, x ∈ (lnGo xs cl ws most d k acc).1 → 0 ≤ x ∧ x < cl.length
  | 0, k, acc, h => h
  | d + 1, k, acc, h => by
    rw [lnGo]
    split
    · rename_i hk
      refine lnGo_range xs cl ws most hw d _ _ ?_
      intro x hx
      have hx' : x ∈ acc.1 ++ [(k : Int)] := hx
      rcases List.mem_append.1 hx' with hx | hx
      · exact h x hx
      · simp at hx; omega
    · exact h
theorem lnGo_len (xs cl ws : List Int) (most : Int) (hw : ∀ i, i < cl.length → 0 ≤ ws.getD i 0 ∧ ws.getD i 0 ≤ 1099511627776) : ∀ d k (acc : List Int × List Int), k ≤ cl.length → acc.1.length ≤ k → acc.2.length = acc.1.length → (lnGo xs cl ws most d k acc).1.length ≤ cl.length ∧ (lnGo xs cl ws most d k acc).2.length = (lnGo xs cl ws most d k acc).1.length
  | 0, k, acc, hk, h, h2 => ⟨by rw [lnGo]; omega, h2⟩
  | d + 1, k, acc, hk, h, h2 => by
    rw [lnGo]
    split
    · rename_i hlt
      have := foldOf_ok xs cl ws most k hlt hw
      exact lnGo_len xs cl ws most hw d _ _ (by omega) (by simp; omega) (by simp [h2])
    · exact ⟨by omega, h2⟩
def cutOf (xs wd : List Int) (most : Int) : List Int := (linesOf xs (clOf xs) (widOf xs wd) most).1.map fun k => (clOf xs).getD k.toNat 0
def CutSays (w : World) (l : List Int) (r : Value) (w' : World) : Prop := ∃ v, r = .tuple #[v, .int .i64 0] ∧ OwnI w' w.heap.size 3 .i64 v l ∧ Upd No w w'

set_option maxRecDepth 10000 in
set_option maxHeartbeats 4000000 in
theorem folds_Cut (v s : Value) (xs wd : List Int) (most : Int) (D E : Nat → Prop) (w : World) (h : SlI w D .u8 v xs) (hs : SlI w E .i64 s wd) (hf : Flat s) (hlen : wd.length = xs.length) (hm : xs.length ≤ 1048576) (hm0 : 0 ≤ most) (hm1 : most ≤ 1099511627776) (hbad : wd.any badW = false) :
    Calls Tryz.prog 19 #[v, s, .int .i64 most] w (Ret (CutSays w (cutOf xs wd most))) := by
  have HO := Lib.hid (folds_open v s xs wd most D E w h hs hf hlen hm hm0 hm1 hbad)
  have HK := Lib.hid (paper_ok xs wd hm hbad)
  have HR : Hid (∀ x : Int, x ∈ (linesOf xs (clOf xs) (widOf xs wd) most).1 → 0 ≤ x ∧ x < (clOf xs).length) := lnGo_range _ _ _ _ (fun i hi => HK.out.w i (by rw [HK.out.wl]; exact hi)) _ _ _ (by simp)
  have hlle := (lnGo_len xs (clOf xs) (widOf xs wd) most (fun i hi => HK.out.w i (by rw [HK.out.wl]; exact hi)) (clOf xs).length 0 ([], []) (Nat.zero_le _) (by simp) rfl).1
  obtain ⟨hl1⟩ : Nonempty ((linesOf xs (clOf xs) (widOf xs wd) most).1.length ≤ 1048576) := ⟨Nat.le_trans hlle (Nat.le_trans HK.out.le hm)⟩
  have hcut : Hid (cutOf xs wd most = (linesOf xs (clOf xs) (widOf xs wd) most).1.map fun k => (clOf xs).getD k.toNat 0) := rfl
  obtain ⟨ln, hln⟩ := named (linesOf xs (clOf xs) (widOf xs wd) most)
  rw [← hln.out] at hl1 HR hcut
  clear h hs hf hlen hbad hlle
  go_enter Tryz.func19, Tryz.ntmps19
  go_wp2_with (first | (go_at_call 22; refine HO.out.mono ?_; rintro e w1 ⟨r, rfl, b, u, z, rfl, hP, hbb, hu1⟩) | (go_at_call 23; refine (paper_lines b v u z most xs (clOf xs) (widOf xs wd) _ _ _ _ (by exact hP) HK.out hm0 hm1).mono ?_; rintro e w2 ⟨r, rfl, va, vb, rfl, ho1, ho2, hu2⟩; rw [← hln.out] at ho1; obtain ⟨A2, c2, rfl, hc2⟩ := ho1.sl.form))
  have hP2 := hP.upd hu2 id (fun _ _ => id) (fun _ _ => id) (fun _ _ => id)
  have hup := hu1.no hu2
  have hos := ho1.sl
  have hw2 := hup.size
  have hPb := blk_lt hP2.at_.blk
  go_loopw [10, 32] (fun v i W => ∃ k : Nat, k ≤ ln.1.length ∧ i = .int .i64 k ∧ OwnI W w2.heap.size 3 .i64 v ((ln.1.take k).map fun k => (clOf xs).getD k.toNat 0) ∧ Upd No w2 W) (fun _ i _ => ln.1.length - (intOf i).toNat)
  case atStart => exact ⟨0, Nat.zero_le _, rfl, by simpa using OwnI.nil _ _ _ _, Upd.refl _ _⟩
  case round =>
    clear ho1 ho2
    obtain ⟨k, hk, rfl, hown, hb⟩ := hrel
    by_cases hlt : k < ln.1.length
    · obtain ⟨ad, rfl, hcell⟩ := (hos.upd hb (fun _ _ _ => id)).at_ hlt
      have hr := HR.out (ln.1.getD k 0) (by rw [List.getD_eq_getElem?_getD, List.getElem?_eq_getElem hlt]; exact List.getElem_mem hlt)
      obtain ⟨Y, hY⟩ : ∃ Y : Nat, ln.1.getD k 0 = Y := ⟨(ln.1.getD k 0).toNat, by omega⟩
      have hYl : Y < (clOf xs).length := by omega
      rw [hY] at hcell
      have hP3 := hP2.upd hb id (fun _ _ => id) (fun _ _ => id) (fun _ _ => id)
      have p1 := hP3.at_.c1
      obtain ⟨A3, c3, rfl, hc3⟩ := hP3.cl_.form
      obtain ⟨ad3, rfl, hcl⟩ := hP3.cl_.at_ hYl
      obtain ⟨x, hx⟩ := named ((clOf xs).getD Y 0)
      rw [← hx.out] at hcl
      have hst : Hid ((ln.1.take (k + 1)).map (fun k => (clOf xs).getD k.toNat 0) = (ln.1.take k).map (fun k => (clOf xs).getD k.toNat 0) ++ [x]) := by
        unfold Hid
        rw [List.take_succ_eq_append_getElem hlt, List.map_append]
        have e : ln.1[k] = (Y : Int) := by rw [← hY, List.getD_eq_getElem?_getD, List.getElem?_eq_getElem hlt]; rfl
        rw [e, hx.out]
        rfl
      have hbs := hb.size
      have hll : Hid (((ln.1.take k).map fun k => (clOf xs).getD k.toNat 0).length ≤ 1048576) := by unfold Hid; simp; omega
      clear hr hY
      go_wp2_with (first | (at_builtin; refine app_int w2.heap.size rfl _ _ 29 3 .i64 8 rfl Tryz.underlying29 infoInt (by decide) _ _ _ hown rfl rfl rfl (by omega) (by have := hll.out; omega) ?_; intro v1 w5 ho hg hat))
      go_roundw
      case rel => exact ⟨k + 1, by omega, by go_num, by rw [hst.out]; exact ho, hb.grown hg (fun b hb' hlt' => by have := (hown.lt hb').1; omega)⟩
      case measure => simp [intOf]; omega
    · have hk' : k = ln.1.length := by omega
      have hfin : Hid ((ln.1.take k).map (fun k => (clOf xs).getD k.toNat 0) = cutOf xs wd most) := by unfold Hid; rw [hcut.out, hk', List.take_length]
      clear hk'
      go_wp2
      go_ret2
      exact Ret.mk ⟨_, rfl, by rw [← hfin.out]; exact hown.base (fun g hg => Nat.le_trans hw2 (hown.lt hg).1), hup.no hb⟩
end Go.Proofs.YtoikhkanoffpfaaGreat
