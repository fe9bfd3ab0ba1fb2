import Derived.Test.YtoikhkanoffpfaaGreatFoldH
namespace Go.Proofs.YtoikhkanoffpfaaGreat
open Go.RowKit Go.Shelf Go.Lib
attribute [local go_sem ↓] Go.wp_at_zero Go.wp_at_succ
set_option linter.unusedVariables false
set_option linter.unusedSimpArgs false

def MarksSays (w : World) (l : List Int) (r : Value) (w' : World) : Prop := ∃ v, r = .tuple #[v, .int .i64 0] ∧ OwnI w' w.heap.size 3 .i64 v l ∧ Upd No w w'

set_option maxRecDepth 10000 in
set_option maxHeartbeats 4000000 in
theorem folds_Marks (v u z : Value) (xs ls os : List Int) (D E G : Nat → Prop) (w : World) (hf : Flat v) (h : SlI w D .u8 v xs) (hl : SlI w E .i8 u ls) (ho : SlI w G .i64 z os) (hxl : ls.length = xs.length) (hm : xs.length ≤ 1048576) (hom : os.length ≤ 1048576) (ok : OrderOk xs.length os) :
    Calls Tryz.prog 20 #[v, u, z] w (Ret (MarksSays w (marksOf xs ls os))) := by
  obtain ⟨A, c, rfl, hc⟩ := h.form
  obtain ⟨A2, c2, rfl, hc2⟩ := hl.form
  obtain ⟨A3, c3, rfl, hc3⟩ := ho.form
  have H := Lib.hid h
  have HO := Lib.hid ho
  have HL : Hid (ls.length = xs.length ∧ SlI w E .i8 (.slice A2 ls.length c2) ls) := ⟨hxl, hl⟩
  have OK := Lib.hid ok
  rw [hxl]
  clear h ho hl ok hxl hc2
  have hmk := make_int (P := Tryz.prog) 29 3 .i64 8 Tryz.underlying29 infoInt (by decide) xs.length (by omega)
  go_enter Tryz.func20, Tryz.ntmps20
  go_wp2
  go_loopw [25] (fun i wr => ∃ k : Nat, k ≤ os.length ∧ i = .int .i64 k ∧ OwnI wr w.heap.size 3 .i64 (.slice (some ⟨w.heap.size, 0, none⟩) xs.length xs.length) (metTo os xs.length k) ∧ Upd No w wr) (fun i _ => os.length - (intOf i).toNat)
  case atStart => exact ⟨0, Nat.zero_le _, rfl, OwnI.made w w.heap.size 3 .i64 xs.length (Nat.le_refl _) (by omega), (Upd.refl No w).alloc _⟩
  case round =>
    obtain ⟨k, hk, rfl, hown, hb⟩ := hrel
    by_cases hlt : k < os.length
    · obtain ⟨ad, rfl, hcell⟩ := (HO.out.upd hb (fun _ _ _ => id)).at_ hlt
      have hr := OK.out.r k hlt
      obtain ⟨Y, hY⟩ : ∃ Y : Nat, os.getD k 0 = Y := ⟨(os.getD k 0).toNat, by omega⟩
      have hYl : Y < xs.length := by omega
      rw [hY] at hcell
      have hmet := hown.at_ (i := Y) (by rw [met_len]; exact hYl)
      rw [met_zero os xs.length Y k (fun i hi e => OK.out.d i k hi hlt (by have := OK.out.r i (by omega); omega))] at hmet
      obtain ⟨hm1, hm2⟩ := hmet
      have hst : Hid (metTo os xs.length (k + 1) = (metTo os xs.length k).set Y 1) := by unfold Hid; simp only [metTo, upto]; rw [hY]; rfl
      have y1 : decide ((Y : Int) < 0) = false := by simp
      have y2 : decide (xs.length ≤ Y) = false := by simp; omega
      clear hr hY
      go_wp2
      go_roundw
      case rel => exact ⟨k + 1, by omega, by go_num, by rw [hst.out]; exact hown.store Y 1, hb.set _ _ (fun hh => absurd hh (by simp))⟩
      case measure => simp [intOf]; omega
    · go_wp2_with (first | (go_at_call 40; refine (clone_Int _ os _ _ (HO.out.upd hb (fun _ _ _ => id)) (by omega)).mono ?_; rintro e w2 ⟨ov, rfl, hov, hu2⟩))
      have hs1 := hb.size
      have hs2 := hu2.size
      have hup2 : Upd No w w2 := hb.no hu2
      clear hown hlt hmk
      go_loopw [52] (fun i W => ∃ k : Nat, k ≤ os.length ∧ i = .int .i64 k ∧ OwnI W w.heap.size 3 .i64 ov (marksTo xs ls os k) ∧ Upd No w W) (fun i _ => os.length - (intOf i).toNat)
      case atStart => exact ⟨0, Nat.zero_le _, rfl, hov.base (fun g hg => Nat.le_trans hs1 (hov.lt hg).1), hup2⟩
      case round =>
        clear hov hb hup2 hu2
        obtain ⟨k, hk, rfl, hown, hb⟩ := hrel
        by_cases hlt : k < os.length
        · obtain ⟨ad, rfl, hcell⟩ := (HO.out.upd hb (fun _ _ _ => id)).at_ hlt
          have hr := OK.out.r k hlt
          obtain ⟨Y, hY⟩ : ∃ Y : Nat, os.getD k 0 = Y := ⟨(os.getD k 0).toNat, by omega⟩
          have hYl : Y < xs.length := by omega
          rw [hY] at hcell
          obtain ⟨ad2, rfl, hcl⟩ := (H.out.upd hb (fun _ _ _ => id)).at_ hYl
          have hml := marks_len xs ls os k hk
          obtain ⟨g, cap, hovv, hg, hgl, hcap⟩ := hown.pos (by rw [hml]; omega)
          rw [hml] at hovv hcap
          subst hovv
          obtain ⟨x, hx⟩ := named (xs.getD Y 0)
          rw [← hx.out] at hcl
          have hst : Hid (marksTo xs ls os (k + 1) = if x = 9 then marksTo xs ls os k else revSeg (marksTo xs ls os k) (frm xs ls os k) (k + 1 - frm xs ls os k)) := by
            unfold Hid; simp only [marksTo, upto]; rw [hY, mkStep, Int.toNat_natCast, ← hx.out]
          clear hr
          have HY := Lib.hid hY
          clear hY
          by_cases h9 : x = 9
          · subst h9
            go_wp2
            go_roundw
            case rel => exact ⟨k + 1, by omega, by go_num, by rw [hst.out]; exact hown, hb⟩
            case measure => simp [intOf]; omega
          · have h9' : (x == 9) = false := by simpa using h9
            have hne := Lib.hid h9
            clear h9
            go_wp2
            have HML := Lib.hid hml
            clear hml
            go_loopw [14] (fun fv W => ∃ f : Nat, f ≤ k ∧ fv = .int .i64 f ∧ Hid (frm xs ls os k = frm xs ls os f) ∧ OwnI W w.heap.size 3 .i64 (.slice (some ⟨g, 0, none⟩) os.length cap) (marksTo xs ls os k) ∧ Upd No w W) (fun fv _ => (intOf fv).toNat)
            case atStart => exact ⟨k, Nat.le_refl _, rfl, rfl, hown, hb⟩
            case round =>
              clear hown hb hcell hcl
              obtain ⟨f, hf2, rfl, hfr, ho2, hb2⟩ := hrel
              have hg0 : w.heap.size ≤ g := hg
              cases f with
              | zero =>
                have e1 : ¬ (0 = cap) := by omega
                have hfr2 : Hid (frm xs ls os k = 0) := hfr.out
                go_wp2
                go_quiet (fail)
                go_wp2_with (first | (go_at_call 42; refine (folds_reverse g cap os.length (marksTo xs ls os k) 0 (k + 1 - 0) _ (by exact ho2) (by rw [HML.out]; omega) (by rw [HML.out]; omega)).mono ?_; rintro e w5 ⟨rfl, ho5, hu5⟩))
                go_roundw
                case rel => exact ⟨k + 1, by omega, by go_num, by rw [hst.out, if_neg hne.out, hfr2.out]; first | exact ho5 | (rw [show k + 1 - (j + 1) = k - j from by omega]; exact ho5), (hb2.drewN _).trans hu5 (fun i hi he => by subst he; exact absurd hi (by omega))⟩
                case measure => simp [intOf]; omega
              | succ j =>
                obtain ⟨_, ej, hcj⟩ := (HO.out.upd hb2 (fun _ _ _ => id)).at_ (i := j) (by omega)
                cases ej
                obtain ⟨_, ej, hcj1⟩ := (HO.out.upd hb2 (fun _ _ _ => id)).at_ (i := j + 1) (by omega)
                cases ej
                have hr1 := OK.out.r j (by omega)
                have hr2 := OK.out.r (j + 1) (by omega)
                obtain ⟨P, hP⟩ : ∃ P : Nat, os.getD j 0 = P := ⟨(os.getD j 0).toNat, by omega⟩
                obtain ⟨Q, hQ⟩ : ∃ Q : Nat, os.getD (j + 1) 0 = Q := ⟨(os.getD (j + 1) 0).toNat, by omega⟩
                have hPl : P < xs.length := by omega
                have hQl : Q < xs.length := by omega
                obtain ⟨_, ej, hcP⟩ := (H.out.upd hb2 (fun _ _ _ => id)).at_ hPl
                cases ej
                obtain ⟨y, hy⟩ := named (xs.getD P 0)
                have hfrj : Hid (frm xs ls os (j + 1) = if (y == 9 && folB xs ls P Q) = true then frm xs ls os j else j + 1) := by
                  unfold Hid; simp only [frm]; rw [hP, hQ, Int.toNat_natCast, Int.toNat_natCast, ← hy.out]
                rw [hP] at hcj
                rw [hQ] at hcj1
                rw [← hy.out] at hcP
                have hcj2 : wr.cell? ⟨ad.block, ad.off + (j + 1), none⟩ = some (.int .i64 Q) := by simpa [Addr.add] using hcj1
                clear hr1 hr2 hP hQ
                have e1 : ¬ (j + 1 = cap) := by omega
                have p1 : (P : Int) < xs.length := by omega
                have p2 : (0 : Int) ≤ P := by omega
                have p3 : IntKind.i64.wrap ((j : Int) + 1 - 1) = (j : Int) := by rw [IntWalk.i64_in _ (by omega)]; omega
                have p4 : (j : Int) < os.length := by omega
                have p5 : (0 : Int) ≤ j := by omega
                have p6 : ((j : Int) + 1).toNat = j + 1 := by omega
                have p7 : (0 : Int) ≤ (j : Int) + 1 := by omega
                have p8 : (j : Int) + 1 < os.length := by omega
                have p9 : decide ((0 : Int) < (j : Int) + 1) = true := decide_eq_true (by omega)
                have p10 : IntKind.i64.wrap (j : Int) = (j : Int) := IntWalk.i64_in _ (by omega)
                by_cases hy9 : y = 9
                · subst hy9
                  have hq := fun (W : World) (h1 : SlI W D .u8 (.slice (some ad2) xs.length c) xs) (h2 : SlI W E .i8 (.slice A2 ls.length c2) ls) => follows_quiet _ xs ls _ D E P Q W hf h1 h2 HL.out.1 (by rw [HL.out.1]; exact hPl) (by rw [HL.out.1]; exact hQl) (by rw [HL.out.1]; exact hm)
                  rw [HL.out.1] at hq
                  have HH1 : Hid (SlI wr D .u8 (.slice (some ad2) xs.length c) xs ∧ SlI wr E .i8 (.slice A2 xs.length c2) ls) := ⟨H.out.upd hb2 (fun _ _ _ => id), by have := HL.out.2.upd hb2 (fun _ _ _ => id); rw [HL.out.1] at this; exact this⟩
                  obtain ⟨bo, hbo⟩ := named (folB xs ls P Q)
                  rw [← hbo.out] at hq hfrj
                  have HQ := Lib.hid hq
                  clear hq
                  cases bo with
                  | true =>
                    have hfr2 : Hid (frm xs ls os k = frm xs ls os j) := by unfold Hid; rw [hfr.out, hfrj.out]; rfl
                    go_wp2
                    go_quiet ((go_at_call 41; exact Calls.quiet_of (HQ.out _ (by exact HH1.out.1) (by exact HH1.out.2))))
                    go_wp2
                    go_roundw
                    case rel => exact ⟨j, by omega, by go_num, hfr2, ho2, hb2.drewN _⟩
                    case measure => simp [intOf]
                  | false =>
                    have hfr2 : Hid (frm xs ls os k = j + 1) := by unfold Hid; rw [hfr.out, hfrj.out]; rfl
                    go_wp2
                    go_quiet ((go_at_call 41; exact Calls.quiet_of (HQ.out _ (by exact HH1.out.1) (by exact HH1.out.2))))
                    go_wp2_with (first | (go_at_call 42; refine (folds_reverse g cap os.length (marksTo xs ls os k) _ _ _ (by exact ho2) (by rw [HML.out]; omega) (by rw [HML.out]; omega)).mono ?_; rintro e w5 ⟨rfl, ho5, hu5⟩))
                    go_roundw
                    case rel => exact ⟨k + 1, by omega, by go_num, by rw [hst.out, if_neg hne.out, hfr2.out]; first | exact ho5 | (rw [show k + 1 - (j + 1) = k - j from by omega]; exact ho5), (hb2.drewN _).trans hu5 (fun i hi he => by subst he; exact absurd hi (by omega))⟩
                    case measure => simp [intOf]; omega
                · have hy9' : (y == 9) = false := by simpa using hy9
                  have hfr2 : Hid (frm xs ls os k = j + 1) := by unfold Hid; rw [hfr.out, hfrj.out, hy9']; rfl
                  clear hy9
                  go_wp2
                  go_quiet (fail)
                  go_wp2_with (first | (go_at_call 42; refine (folds_reverse g cap os.length (marksTo xs ls os k) _ _ _ (by exact ho2) (by rw [HML.out]; omega) (by rw [HML.out]; omega)).mono ?_; rintro e w5 ⟨rfl, ho5, hu5⟩))
                  go_roundw
                  case rel => exact ⟨k + 1, by omega, by go_num, by rw [hst.out, if_neg hne.out, hfr2.out]; first | exact ho5 | (rw [show k + 1 - (j + 1) = k - j from by omega]; exact ho5), (hb2.drewN _).trans hu5 (fun i hi he => by subst he; exact absurd hi (by omega))⟩
                  case measure => simp [intOf]; omega
        · have hk' : k = os.length := by omega
          go_wp2
          go_ret2
          exact Ret.mk ⟨_, rfl, by subst hk'; exact hown, hb⟩
end Go.Proofs.YtoikhkanoffpfaaGreat
