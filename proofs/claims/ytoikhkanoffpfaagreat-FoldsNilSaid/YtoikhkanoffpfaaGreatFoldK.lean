import Derived.Test.YtoikhkanoffpfaaGreatFoldJ
import Derived.Deep.DeepCutAuto
import Derived.Deep.CutBlock
import Derived.Deep.LoopGhost
namespace Go.Proofs.YtoikhkanoffpfaaGreat
open Go.RowKit Go.Shelf Go.Lib
attribute [local go_sem ↓] Go.wp_at_zero Go.wp_at_succ
set_option linter.unusedVariables false
set_option linter.unusedSimpArgs false

def PlaceAt (W : World) (B : Nat) (x y : Int) : Prop := W.heap[B]? = some (.cells #[.int .i64 x, .int .i64 y] 145 (0, 0))

set_option maxRecDepth 10000 in
set_option maxHeartbeats 4000000 in
theorem paper_fold (bx b : Nat) (v u z : Value) (most : Int) (xs cl ws : List Int) (D E G : Nat → Prop) (start : Nat) (w : World) (h : Paper w b v u z most xs cl ws D E G) (ok : PaperOk xs cl ws) (hst : start < cl.length)
    (hbx : w.cell? ⟨bx, 0, none⟩ = some (.pointer (some ⟨b, 0, none⟩))) (hbl : b < w.heap.size) (hm0 : 0 ≤ most) (hm1 : most ≤ 1099511627776) :
    Calls Tryz.prog 47 #[.pointer (some ⟨b, 0, none⟩), .int .i64 start, .func (.func 46) #[] #[.pointer (some ⟨bx, 0, none⟩)]] w
      (Ret fun r w' => r = .tuple #[.int .i64 (foldOf xs cl ws most start).1, .int .i64 (foldOf xs cl ws most start).2] ∧ Upd No w w') := by
  obtain ⟨A, c, rfl, hc⟩ := h.xs_.form
  obtain ⟨A2, c2, rfl, hc2⟩ := h.cl_.form
  obtain ⟨A3, c3, rfl, hc3⟩ := h.ws_.form
  have HP := Lib.hid h
  have HX : Hid (w.cell? ⟨bx, 0, none⟩ = some (.pointer (some ⟨b, 0, none⟩))) := hbx
  have HK := Lib.hid ok
  clear h hbx ok
  have hcl1 : cl.length ≤ 1048576 := Nat.le_trans HK.out.le HK.out.n
  go_enter Tryz.func47, Tryz.ntmps47
  go_wp2_with fail
  go_step3
  go_wp2_with fail
  go_step3
  go_upto_block 0 with fail
  go_cut [10, 11, 12] (fun sv wv kv W => ∃ (k : Nat) (s : FS), k ≤ cl.length ∧ wv = .int .i64 s.wid ∧ kv = .int .i64 k ∧ Hid (foldOf xs cl ws most start = fsEnd xs cl ws start (k, s)) ∧ PlaceAt W w.heap.size s.la s.lw ∧ PlaceAt W (w.heap.size + 1) s.oa s.ow ∧ Upd No w W)
  case first =>
    go_wp2_with fail
    go_loopg [10, 11, 12] (cl.length - start) (fun gh sv wv kv W => ∃ (k : Nat) (s : FS), start ≤ k ∧ k ≤ cl.length ∧ gh = cl.length - k ∧ sv = .int .i64 s.sum ∧ wv = .int .i64 s.wid ∧ kv = .int .i64 k ∧
        Hid (fsGo xs cl ws most start (cl.length - k) k s = fsGo xs cl ws most start (cl.length - start) start FS.init) ∧ FsOk cl.length start k s ∧ PlaceAt W w.heap.size s.la s.lw ∧ PlaceAt W (w.heap.size + 1) s.oa s.ow ∧ Upd No w W)
    case atStart => exact ⟨start, FS.init, Nat.le_refl _, by omega, rfl, rfl, rfl, rfl, rfl, FsOk.init _ _, blk_alloc (heap_alloc_new w _) _, blk_new _ _ (by simp), ((Upd.refl No w).alloc _).alloc _⟩
    case round =>
      obtain ⟨k, s, hsk, hk, rfl, rfl, rfl, rfl, hgo, hok, hla, hoa, hb⟩ := hrel
      have hP := HP.out.upd hb id (fun _ _ => id) (fun _ _ => id) (fun _ _ => id)
      have p1 := hP.at_.c1
      by_cases hlt : k < cl.length
      · go_upto_if 25 with fail
        obtain ⟨s1, hs1⟩ := named (fsSet xs cl start k s)
        have hset := hok.set (xs := xs) (cl := cl) hlt hsk
        rw [← hs1.out] at hset
        obtain ⟨ho1, hsum, hwid, ho2⟩ := hset
        have e1 : wr.heap[w.heap.size]? = some (.cells #[.int .i64 s.la, .int .i64 s.lw] 145 (0, 0)) := hla
        have e2 : wr.heap[w.heap.size + 1]? = some (.cells #[.int .i64 s.oa, .int .i64 s.ow] 145 (0, 0)) := hoa
        have E1 := Lib.hid e1
        have E2 := Lib.hid e2
        have HS := Lib.hid hsum
        have HW := Lib.hid hwid
        have HO2 := Lib.hid ho2
        clear hla hoa hsum hwid ho2 e1 e2
        go_cut [31] (fun r31 W2 => PlaceAt W2 w.heap.size s1.la s1.lw ∧ PlaceAt W2 (w.heap.size + 1) s1.oa s1.ow ∧ Upd No w W2)
        case first =>
          by_cases hg : start < k
          · have c10 : wr.cell? ⟨w.heap.size, 0, none⟩ = some (.int .i64 s.la) := blk_cell E1.out 0
            have c11 : wr.cell? ⟨w.heap.size, 1, none⟩ = some (.int .i64 s.lw) := blk_cell E1.out 1
            have c20 : wr.cell? ⟨w.heap.size + 1, 0, none⟩ = some (.int .i64 s.oa) := blk_cell E2.out 0
            have c21 : wr.cell? ⟨w.heap.size + 1, 1, none⟩ = some (.int .i64 s.ow) := blk_cell E2.out 1
            have f10 := blk_frozen E1.out 0
            have f11 := blk_frozen E1.out 1
            have f20 := blk_frozen E2.out 0
            have f21 := blk_frozen E2.out 1
            have hmy := fun (W : World) (h1 : Paper W b (.slice A xs.length c) (.slice A2 cl.length c2) (.slice A3 ws.length c3) most xs cl ws D E G) (h2 : W.cell? ⟨bx, 0, none⟩ = some (.pointer (some ⟨b, 0, none⟩))) => paper_may bx b _ _ _ most xs cl ws D E G k W h1 HK.out hlt h2
            obtain ⟨bo, hbo⟩ := named (brB xs cl k)
            rw [← hbo.out] at hmy
            have HMY := Lib.hid hmy
            clear hmy
            cases bo with
            | false =>
              have hS : Hid (s1 = { s with oa := k, ow := s.wid }) := by unfold Hid; rw [hs1.out, fsSet, if_pos hg, ← hbo.out]; rfl
              go_wp2_with (first | (go_at_call 46; refine (HMY.out _ (by exact HP.out.upd ((hb.set _ _ (by intro hh; exact absurd hh (by simp))).set _ _ (by intro hh; exact absurd hh (by simp))) id (fun _ _ => id) (fun _ _ => id) (fun _ _ => id)) (by exact ((hb.set _ _ (by intro hh; exact absurd hh (by simp))).set _ _ (by intro hh; exact absurd hh (by simp))).cell HX.out id)).mono ?_; rintro e w5 ⟨r, rfl, rfl, hu5⟩; have g2 := hu5.heap (blk_set (blk_set E2.out 0 (.int .i64 k)) 1 (.int .i64 s.wid)) id; have g1 := hu5.heap (blk_far (blk_far E1.out (p := ⟨w.heap.size + 1, 0, none⟩) (by simp) (.int .i64 k)) (p := ⟨w.heap.size + 1, 1, none⟩) (by simp) (.int .i64 s.wid)) id; have d20 : w5.cell? ⟨w.heap.size + 1, 0, none⟩ = some (.int .i64 k) := blk_cell g2 0; have d21 : w5.cell? ⟨w.heap.size + 1, 1, none⟩ = some (.int .i64 s.wid) := blk_cell g2 1; have d10 : w5.cell? ⟨w.heap.size, 0, none⟩ = some (.int .i64 s.la) := blk_cell g1 0; have d11 : w5.cell? ⟨w.heap.size, 1, none⟩ = some (.int .i64 s.lw) := blk_cell g1 1; have k10 := blk_frozen g1 0; have k11 := blk_frozen g1 1; have G1 := Lib.hid g1; have G2 := Lib.hid g2; clear g1 g2))
              go_meet
              case rel => exact ⟨by rw [hS.out]; exact G1.out, by rw [hS.out]; exact G2.out, ((hb.set _ _ (by intro hh; exact absurd hh (by simp))).set _ _ (by intro hh; exact absurd hh (by simp))).no hu5⟩
            | true =>
              have hS : Hid (s1 = { s with oa := k, ow := s.wid, la := k, lw := s.wid }) := by unfold Hid; rw [hs1.out, fsSet, if_pos hg, ← hbo.out]; rfl
              go_wp2_with (first | (go_at_call 46; refine (HMY.out _ (by exact HP.out.upd ((hb.set _ _ (by intro hh; exact absurd hh (by simp))).set _ _ (by intro hh; exact absurd hh (by simp))) id (fun _ _ => id) (fun _ _ => id) (fun _ _ => id)) (by exact ((hb.set _ _ (by intro hh; exact absurd hh (by simp))).set _ _ (by intro hh; exact absurd hh (by simp))).cell HX.out id)).mono ?_; rintro e w5 ⟨r, rfl, rfl, hu5⟩; have g2 := hu5.heap (blk_set (blk_set E2.out 0 (.int .i64 k)) 1 (.int .i64 s.wid)) id; have g1 := hu5.heap (blk_far (blk_far E1.out (p := ⟨w.heap.size + 1, 0, none⟩) (by simp) (.int .i64 k)) (p := ⟨w.heap.size + 1, 1, none⟩) (by simp) (.int .i64 s.wid)) id; have d20 : w5.cell? ⟨w.heap.size + 1, 0, none⟩ = some (.int .i64 k) := blk_cell g2 0; have d21 : w5.cell? ⟨w.heap.size + 1, 1, none⟩ = some (.int .i64 s.wid) := blk_cell g2 1; have d10 : w5.cell? ⟨w.heap.size, 0, none⟩ = some (.int .i64 s.la) := blk_cell g1 0; have d11 : w5.cell? ⟨w.heap.size, 1, none⟩ = some (.int .i64 s.lw) := blk_cell g1 1; have k10 := blk_frozen g1 0; have k11 := blk_frozen g1 1; have G1 := Lib.hid g1; have G2 := Lib.hid g2; clear g1 g2))
              go_meet
              case rel => exact ⟨by rw [hS.out]; exact blk_set (blk_set G1.out 0 (.int .i64 k)) 1 (.int .i64 s.wid), by rw [hS.out]; exact blk_far (blk_far G2.out (p := ⟨w.heap.size, 0, none⟩) (by simp) (.int .i64 k)) (p := ⟨w.heap.size, 1, none⟩) (by simp) (.int .i64 s.wid), ((((hb.set _ _ (by intro hh; exact absurd hh (by simp))).set _ _ (by intro hh; exact absurd hh (by simp))).no hu5).set _ _ (by intro hh; exact absurd hh (by simp))).set _ _ (by intro hh; exact absurd hh (by simp))⟩
          · have hS : Hid (s1 = s) := by unfold Hid; rw [hs1.out, fsSet, if_neg hg]
            go_wp2
            go_meet
            case rel => exact ⟨by rw [hS.out]; exact E1.out, by rw [hS.out]; exact E2.out, hb⟩
        case rest =>
          obtain ⟨g1, g2, hb2⟩ := hcut
          have hP2 := HP.out.upd hb2 id (fun _ _ => id) (fun _ _ => id) (fun _ _ => id)
          have q0 := hP2.at_.c0
          have q1 := hP2.at_.c1
          have q2 := hP2.at_.c2
          have q3 := hP2.at_.c3
          have wl := HK.out.wl
          have hr := HK.out.r k hlt
          obtain ⟨Y, hY⟩ : ∃ Y : Nat, cl.getD k 0 = Y := ⟨(cl.getD k 0).toNat, by omega⟩
          have hYl : Y < xs.length := by omega
          have hkl : k < ws.length := by omega
          have y0 := hP2.xs_.at_ hYl
          have y1 := hP2.cl_.at_ hlt
          have y2 := hP2.ws_.at_ hkl
          obtain ⟨ad0, rfl, y0⟩ := y0
          obtain ⟨ad1, rfl, y1⟩ := y1
          obtain ⟨ad2, rfl, y2⟩ := y2
          rw [hY] at y1
          have hw := HK.out.w k hkl
          obtain ⟨x, hx⟩ := named (xs.getD Y 0)
          obtain ⟨q, hq⟩ := named (ws.getD k 0)
          have hkb : Hid (kBlank xs cl k = fblankB x) := by unfold Hid; rw [kBlank, hY, Int.toNat_natCast, hx.out]
          rw [← hx.out] at y0
          rw [← hq.out] at y2 hw
          obtain ⟨bo, hbo⟩ := named (fblankB x)
          have hbl' := fun (W : World) => folds_blank x W
          rw [← hbo.out] at hbl' hkb
          have HB := Lib.hid hbl'
          have hwl := Lib.hid wl
          have hs2 : Hid (fsAdd ws k s1 = { s1 with sum := s.sum + q }) := by unfold Hid; rw [fsAdd, HS.out, hq.out]
          obtain ⟨d, hd⟩ : ∃ d, Hid (cl.length - k = d + 1) := ⟨cl.length - k - 1, by unfold Hid; omega⟩
          have hd' : Hid (cl.length - (k + 1) = d) := by have := hd.out; unfold Hid; omega
          have hgo' := hgo.out
          rw [hd.out, fsGo, ← hs1.out, hs2.out, hkb.out] at hgo'
          simp only at hgo'
          have HG := Lib.hid hgo'
          have hnx := hok.next (xs := xs) (cl := cl) (ws := ws) hlt hsk (by rw [← hq.out]; exact hw)
          rw [← hs1.out] at hnx
          have hok1 := hok.sum
          have hkm : (1099511627776 : Int) * k ≤ 1152921504606846976 := by omega
          clear hgo hgo' hr hY wl hbl'
          have hs3 := hok1.2
          have hs4 : s.sum ≤ 1152921504606846976 := Int.le_trans hs3 hkm
          have hs5 := hok1.1
          have hq1 := hw.1
          have hq2 := hw.2
          have b3 : (k : Int) < ws.length := by omega
          have b4 : (k : Int) < cl.length := by omega
          have b5 : (Y : Int) < xs.length := by omega
          have b6 : (0 : Int) ≤ Y := by omega
          have b7 : (0 : Int) ≤ k := by omega
          clear hs3 hkm hok1 hok
          cases bo with
          | true =>
            have HG' : Hid (fsGo xs cl ws most start d (k + 1) { s1 with sum := s.sum + q } = fsGo xs cl ws most start (cl.length - start) start FS.init) := by
              have := HG.out
              rw [if_pos rfl] at this
              exact this
            go_wp2
            go_quiet ((go_at_call 72; exact quiet_left (HB.out _)))
            go_wp2
            go_roundg (cl.length - (k + 1))
            case measure => omega
            case rel => exact ⟨k + 1, { s1 with sum := s.sum + q }, by omega, by omega, rfl, rfl, congrArg (Value.int .i64) HW.out.symm, by go_num, by unfold Hid; rw [hd'.out]; exact HG'.out, by rw [hs2.out] at hnx; exact hnx.1, g1, g2, hb2.drewN _⟩
          | false =>
            by_cases hmo : most < s.sum + q
            · have HG' : Hid ((k, { s1 with sum := s.sum + q }) = fsGo xs cl ws most start (cl.length - start) start FS.init) := by
                have := HG.out
                rw [if_neg (by simp), if_pos hmo] at this
                exact this
              go_wp2
              go_quiet ((go_at_call 72; exact quiet_left (HB.out _)))
              go_wp2
              go_meet
              case rel => exact ⟨k, { s1 with sum := s.sum + q }, by omega, congrArg (Value.int .i64) HW.out.symm, rfl, by unfold Hid foldOf; rw [← HG'.out], g1, g2, hb2.drewN _⟩
            · have HG' : Hid (fsGo xs cl ws most start d (k + 1) { s1 with sum := s.sum + q, wid := s.sum + q } = fsGo xs cl ws most start (cl.length - start) start FS.init) := by
                have := HG.out
                rw [if_neg (by simp), if_neg hmo] at this
                exact this
              go_wp2
              go_quiet ((go_at_call 72; exact quiet_left (HB.out _)))
              go_wp2
              go_roundg (cl.length - (k + 1))
              case measure => omega
              case rel => exact ⟨k + 1, { s1 with sum := s.sum + q, wid := s.sum + q }, by omega, by omega, rfl, rfl, rfl, by go_num, by unfold Hid; rw [hd'.out]; exact HG'.out, by rw [hs2.out] at hnx; exact hnx.2, g1, g2, hb2.drewN _⟩
      · have hk' : k = cl.length := by omega
        have hfo : Hid (foldOf xs cl ws most start = fsEnd xs cl ws start (k, s)) := by
          unfold Hid foldOf
          rw [← hgo.out, hk', Nat.sub_self, fsGo]
        clear hk'
        go_wp2
        go_meet
        case rel => exact ⟨k, s, by omega, rfl, rfl, hfo, hla, hoa, hb⟩
  case rest =>
    obtain ⟨k, s, hk, rfl, rfl, hfo, g1, g2, hb⟩ := hcut
    have hP2 := HP.out.upd hb id (fun _ _ => id) (fun _ _ => id) (fun _ _ => id)
    have q1 := hP2.at_.c1
    have c10 : wc.cell? ⟨w.heap.size, 0, none⟩ = some (.int .i64 s.la) := blk_cell g1 0
    have c11 : wc.cell? ⟨w.heap.size, 1, none⟩ = some (.int .i64 s.lw) := blk_cell g1 1
    have c20 : wc.cell? ⟨w.heap.size + 1, 0, none⟩ = some (.int .i64 s.oa) := blk_cell g2 0
    have c21 : wc.cell? ⟨w.heap.size + 1, 1, none⟩ = some (.int .i64 s.ow) := blk_cell g2 1
    clear g1 g2
    by_cases hke : k = cl.length
    · have hr : Hid (foldOf xs cl ws most start = ((k : Int), s.wid)) := by unfold Hid; rw [hfo.out, fsEnd, if_pos hke]
      have hkb : (k == cl.length) = true := by simpa using hke
      clear hke
      go_wp2
      go_ret2
      exact Ret.mk ⟨by simp [hr.out], hb⟩
    · have hkb : (k == cl.length) = false := by simpa using hke
      by_cases hla : 0 < s.la
      · have hr : Hid (foldOf xs cl ws most start = (s.la, s.lw)) := by unfold Hid; rw [hfo.out, fsEnd, if_neg hke, if_pos hla]
        clear hke
        go_wp2
        go_quiet (fail)
        go_wp2
        go_ret2
        exact Ret.mk ⟨by simp [hr.out], hb.drewN _⟩
      · by_cases hoa : 0 < s.oa
        · have hr : Hid (foldOf xs cl ws most start = (s.oa, s.ow)) := by unfold Hid; rw [hfo.out, fsEnd, if_neg hke, if_neg hla, if_pos hoa]
          clear hke
          go_wp2
          go_quiet (fail)
          go_wp2
          go_ret2
          exact Ret.mk ⟨by simp [hr.out], hb.drewN _⟩
        · have hr : Hid (foldOf xs cl ws most start = loneOf xs cl ws start) := by unfold Hid; rw [hfo.out, fsEnd, if_neg hke, if_neg hla, if_neg hoa]
          clear hke
          go_wp2_with (first | (go_at_call 74; refine (paper_lone b _ _ _ most xs cl ws D E G start _ (by exact hP2) HK.out hst).mono ?_; rintro e w5 ⟨r, rfl, rfl, hu5⟩))
          go_ret2
          exact Ret.mk ⟨by simp [hr.out], hb.no hu5⟩
end Go.Proofs.YtoikhkanoffpfaaGreat
