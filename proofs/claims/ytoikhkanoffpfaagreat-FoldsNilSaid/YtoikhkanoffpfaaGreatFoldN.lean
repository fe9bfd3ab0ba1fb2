import Derived.Test.YtoikhkanoffpfaaGreatFoldM
namespace Go.Proofs.YtoikhkanoffpfaaGreat
open Go.RowKit Go.Shelf Go.Lib
attribute [local go_sem ↓] Go.wp_at_zero Go.wp_at_succ
set_option linter.unusedVariables false
set_option linter.unusedSimpArgs false

def OpenSays (w : World) (v : Value) (xs wd : List Int) (most : Int) (D : Nat → Prop) (r : Value) (w' : World) : Prop :=
  ∃ b u z, r = .tuple #[.pointer (some ⟨b, 0, none⟩), .int .i64 0] ∧ Paper w' b v u z most xs (clOf xs) (widOf xs wd) D (fun k => u.ownBlock = some k) (fun k => z.ownBlock = some k) ∧ w.heap.size ≤ b ∧ Upd No w w'

set_option maxRecDepth 10000 in
set_option maxHeartbeats 4000000 in
theorem folds_open (v s : Value) (xs wd : List Int) (most : Int) (D E : Nat → Prop) (w : World) (h : SlI w D .u8 v xs) (hs : SlI w E .i64 s wd) (hf : Flat s) (hlen : wd.length = xs.length) (hm : xs.length ≤ 1048576) (hm0 : 0 ≤ most) (hm1 : most ≤ 1099511627776) (hbad : wd.any badW = false) :
    Calls Tryz.prog 22 #[v, s, .int .i64 most] w (Ret (OpenSays w v xs wd most D)) := by
  obtain ⟨A, c, rfl, hc⟩ := h.form
  obtain ⟨A2, c2, rfl, hc2⟩ := hs.form
  have HX := Lib.hid h
  have HS : Hid (wd.length = xs.length ∧ SlI w E .i64 (.slice A2 wd.length c2) wd) := ⟨hlen, hs⟩
  have hwc := widths_call _ wd E w hf hs (by omega)
  rw [hbad, hlen] at hwc
  have HWC := Lib.hid hwc
  have HB := Lib.hid hbad
  have HF := Lib.hid hf
  rw [hlen] at hc2 ⊢
  clear h hs hf hlen hwc hbad
  have g1 : decide (most < 0) = false := by simp; omega
  have g2 : decide (1099511627776 < most) = false := by simp; omega
  have g3 : decide (1048576 < xs.length) = false := by simp; omega
  go_enter Tryz.func22, Tryz.ntmps22
  go_wp2_with (first | (go_at_call 44; refine HWC.out.mono ?_; rintro e w1 ⟨rfl, hu1⟩) | (go_at_call 10; refine (folds_Clusters _ xs D _ (by exact HX.out.upd hu1 (fun _ _ _ => id)) hm).mono ?_; rintro e w2 ⟨u, rfl, hou, hu2⟩; obtain ⟨A3, c3, rfl, hc3⟩ := hou.sl.form; have hs1 := hu1.size; have hs2 := hu2.size))
  obtain ⟨B, hB⟩ := named w2.heap.size
  obtain ⟨cl, hcl⟩ := named (clOf xs)
  rw [← hcl.out] at hou hc3 ⊢
  rw [← hB.out]
  have hblk : (w2.alloc (.cells #[.slice A xs.length c, .slice A3 cl.length c3, .slice none 0 0, .int .i64 most] 77)).heap[B]? = some (.cells #[.slice A xs.length c, .slice A3 cl.length c3, .slice none 0 0, .int .i64 most] 77 (0, 0)) := blk_new _ _ hB.out.symm
  have hB1 : w1.heap.size ≤ B := by rw [hB.out]; exact hs2
  have hcll : cl.length ≤ 1048576 := by rw [hcl.out]; exact Nat.le_trans (cl_le xs xs.length) hm
  have HUB := Lib.hid (show ∀ g, (Value.slice A3 cl.length c3).ownBlock = some g → g < B from fun g hg => by rw [hB.out]; exact (hou.lt hg).2)
  have CG : Hid (∀ k, k < cl.length → (0 ≤ cl.getD k 0 ∧ cl.getD k 0 < xs.length) ∧ cl.getD k 0 ≤ clTo' xs.length cl k ∧ clTo' xs.length cl k ≤ xs.length) := by
    unfold Hid; rw [hcl.out]; exact fun k hk => ⟨cl_get xs k hk, clTo_bd xs k hk⟩
  go_loopg [44] cl.length (fun gh iv W => ∃ (k : Nat) (z : Value), k ≤ cl.length ∧ gh = cl.length - k ∧ iv = .int .i64 k ∧ Hid (W.heap[B]? = some (.cells #[.slice A xs.length c, .slice A3 cl.length c3, z, .int .i64 most] 77 (0, 0))) ∧
      OwnI W w1.heap.size 3 .i64 (.slice A3 cl.length c3) cl ∧ OwnI W w1.heap.size 3 .i64 z (widTo wd xs.length cl k) ∧ Apart z (.slice A3 cl.length c3) ∧ (∀ g, z.ownBlock = some g → g ≠ B) ∧ Upd No w W)
  case atStart => exact ⟨0, .slice none 0 0, Nat.zero_le _, rfl, rfl, hblk, hou.alloc _, OwnI.nil _ _ _ _, Apart.nil _, fun g h => (by cases h), (hu1.no hu2).alloc _⟩
  case round =>
    clear hou hu2 hblk hB
    obtain ⟨k, z, hk, rfl, rfl, HBK, hou, hoz, hap, hzn, hb⟩ := hrel
    by_cases hlt : k < cl.length
    · obtain ⟨adu, rfl, hcu⟩ := hou.sl.at_ hlt
      obtain ⟨⟨hy0, hy1⟩, hy2, hy3⟩ := CG.out k hlt
      obtain ⟨Y, hY⟩ : ∃ Y : Nat, cl.getD k 0 = Y := ⟨(cl.getD k 0).toNat, by omega⟩
      obtain ⟨T, hT⟩ : ∃ T : Nat, clTo' xs.length cl k = T := ⟨(clTo' xs.length cl k).toNat, by omega⟩
      have hYT : Y ≤ T := by omega
      have hTx : T ≤ xs.length := by omega
      have hYx : Y < xs.length := by omega
      have hwa : Hid (widAt wd xs.length cl k = sumSeg wd Y (T - Y)) := by unfold Hid widAt; rw [hY, hT, show ((T : Int) - Y).toNat = T - Y from by omega, Int.toNat_natCast]
      rw [hY] at hcu
      obtain ⟨TH⟩ : Nonempty (Hid (clTo' xs.length cl k = T)) := ⟨hT⟩
      have hsl := HS.out.2.upd hb (fun _ _ _ => id)
      rw [HS.out.1] at hsl
      rcases hsl.flat_form (by have := HF.out; rw [HS.out.1] at this; exact this) with ⟨hz0, _⟩ | ⟨b2, off2, c2', he, hc2', hpos, _⟩
      · exact absurd (HS.out.1) (by rw [hz0]; simp only [List.length_nil]; omega)
      injection he with he1 he2 he3
      subst he1 he3
      clear he2
      rw [HS.out.1] at hc2'
      have hcw : ∀ j, j < T - Y → wr.cell? ⟨b2, off2 + Y + j, none⟩ = some (.int .i64 (wd.getD (Y + j) 0)) := fun j hj => by
        rw [Nat.add_assoc]
        exact hsl.flat_at (by omega)
      have HCW := Lib.hid hcw
      have hbs := hb.size
      have d0 : wr.cell? ⟨B, 1, none⟩ = some (.slice (some adu) cl.length c3) := blk_cell HBK.out 1
      have d2 : wr.cell? ⟨B, 2, none⟩ = some z := blk_cell HBK.out 2
      have f2 := blk_frozen HBK.out 2
      clear hy0 hy1 hy2 hy3 hY hT hsl hcw
      go_upto_if 58 with fail
      go_cut [11] (fun tv W => tv = .int .i64 T ∧ W = wr)
      case first =>
        by_cases hk1 : k + 1 < cl.length
        · obtain ⟨_, e, hcu1⟩ := hou.sl.at_ hk1
          cases e
          have hT2 : cl.getD (k + 1) 0 = T := by have := TH.out; rw [clTo', if_pos hk1] at this; exact this
          rw [hT2] at hcu1
          have hcu2 : wr.cell? ⟨adu.block, adu.off + (k + 1), none⟩ = some (.int .i64 T) := by simpa [Addr.add] using hcu1
          clear hT2
          go_wp2
          go_meet
          case rel => exact ⟨rfl, rfl⟩
        · have hT2 : Hid (xs.length = T) := by have := TH.out; rw [clTo', if_neg hk1] at this; unfold Hid; omega
          go_wp2
          go_meet
          case rel => exact ⟨by rw [← hT2.out], rfl⟩
      case rest =>
        obtain ⟨rfl, rfl⟩ := hcut
        have hBl := blk_lt HBK.out
        have q1 : (Y : Int) ≤ T := by omega
        have q2 : (0 : Int) ≤ Y := by omega
        have q3 : (T : Int) ≤ c2 := by omega
        have q4 : ¬ (Y = c2) := by omega
        have SB := Lib.hid (sumSeg_bd wd Y (any_bad HB.out))
        have WB := Lib.hid (any_bad HB.out)
        go_wp2
        go_loop [12, 72] (fun sv iv => ∃ j : Nat, j ≤ T - Y ∧ iv = .int .i64 j ∧ sv = .int .i64 (sumSeg wd Y j)) (fun _ iv => T - Y - (intOf iv).toNat)
        case atStart => exact ⟨0, Nat.zero_le _, rfl, rfl⟩
        case round =>
          obtain ⟨j, hj, rfl, rfl⟩ := hrel
          have hsb := SB.out j
          have hsb1 := hsb.1
          have hsb2 : sumSeg wd Y j ≤ 1152921504606846976 := by omega
          by_cases hjl : j < T - Y
          · have hcw := HCW.out j hjl
            obtain ⟨x, hx⟩ := named (wd.getD (Y + j) 0)
            have hwb := WB.out (Y + j)
            rw [← hx.out] at hcw hwb
            obtain ⟨hwb1, hwb2⟩ := hwb
            have hnx : Hid (sumSeg wd Y (j + 1) = sumSeg wd Y j + x) := by unfold Hid; rw [sumSeg, hx.out]
            clear hsb
            go_wp2
            go_round
            case rel => exact ⟨j + 1, by omega, by go_num, by rw [hnx.out]⟩
            case measure => simp [intOf]; omega
          · have hje : j = T - Y := by omega
            have hnx : Hid (sumSeg wd Y j = widAt wd xs.length cl k) := by unfold Hid; rw [hwa.out, hje]
            clear hsb hje
            have hwl := widTo_len wd xs.length cl k
            have HWL := Lib.hid hwl
            clear hwl
            go_wp2_with (first | (at_builtin; refine app_int w1.heap.size rfl _ _ 29 3 .i64 8 rfl Tryz.underlying29 infoInt (by decide) _ _ _ hoz rfl rfl rfl (by omega) (by rw [HWL.out]; omega) ?_; intro z1 w5 oz5 hg5 hat5; have hou5 := hou.grown_other hg5 hap; have hap5 := hap.grown hou hat5; have hs5 := hg5.size; have blk5 := (hg5.block B (blk_lt HBK.out) (fun e => hzn _ e.symm rfl)).trans HBK.out; have HB5 := Lib.hid blk5; have e2 : w5.cell? ⟨B, 2, none⟩ = some z := blk_cell blk5 2; have ef2 := blk_frozen blk5 2; clear blk5; obtain ⟨A5, n5, c5, rfl⟩ := oz5.isSlice))
            have hzn5 := ne_grown hzn hat5 hBl
            have hb5 := hb.grown hg5 (fun b hb' hlt' => by have := (hoz.lt hb').1; omega)
            go_roundg (cl.length - (k + 1))
            case measure => omega
            case rel => exact ⟨k + 1, .slice A5 n5 c5, by omega, rfl, by go_num, blk_set HB5.out 2 (.slice A5 n5 c5), hou5.far (fun e => absurd (HUB.out _ e) (by simp)) _, by rw [widTo_succ, ← hnx.out]; exact oz5.far (fun e => hzn5 _ e rfl) _, hap5, hzn5, hb5.set _ _ (by simp; omega)⟩
    · have hk' : k = cl.length := by omega
      have hfin : Hid (widTo wd xs.length cl k = widOf xs wd) := by unfold Hid widOf; rw [hk', hcl.out]
      clear hk'
      go_wp2
      go_ret2
      exact Ret.mk ⟨B, _, z, rfl, ⟨⟨HBK.out⟩, HX.out.upd hb (fun _ _ _ => id), by rw [← hcl.out]; exact hou.sl, by rw [← hfin.out]; exact hoz.sl⟩, by omega, hb⟩
end Go.Proofs.YtoikhkanoffpfaaGreat
