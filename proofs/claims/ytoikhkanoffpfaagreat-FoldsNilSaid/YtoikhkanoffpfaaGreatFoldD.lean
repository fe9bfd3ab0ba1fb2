import Derived.Test.YtoikhkanoffpfaaGreatFoldC
namespace Go.Proofs.YtoikhkanoffpfaaGreat
open Go.RowKit Go.Shelf
set_option linter.unusedVariables false
set_option linter.unusedSimpArgs false

set_option maxRecDepth 10000 in
set_option maxHeartbeats 2000000 in
/-- may a line begin at a cluster: the closure of lines -/
theorem paper_may (bx b : Nat) (v u z : Value) (most : Int) (xs cl ws : List Int) (D E G : Nat → Prop) (k : Nat) (w : World) (h : Paper w b v u z most xs cl ws D E G) (ok : PaperOk xs cl ws) (hk : k < cl.length)
    (hbx : w.cell? ⟨bx, 0, none⟩ = some (.pointer (some ⟨b, 0, none⟩))) :
    Calls Tryz.prog 46 #[.int .i64 k, .pointer (some ⟨bx, 0, none⟩)] w (Ret fun r w' => r = .bool (brB xs cl k) ∧ Upd No w w') := by
  obtain ⟨hat, hxs, hcl, hws⟩ := h
  obtain ⟨A, c, rfl, hc⟩ := hxs.form
  obtain ⟨A2, c2, rfl, hc2⟩ := hcl.form
  have h0 := hat.c0
  have h1 := hat.c1
  have hbk := folds_breaks _ _ xs cl D E k w.drew (hxs.keep (fun _ _ _ => rfl)) (hcl.keep (fun _ _ _ => rfl)) hk ok.n ok.le ok.r
  obtain ⟨bo, hbo⟩ := named (brB xs cl k)
  rw [← hbo.out] at hbk ⊢
  clear hxs hcl hws hat ok
  go_enter Tryz.func46, Tryz.ntmps46
  go_wp2
  go_region_with (go_at_call 43; refine hbk.mono ?_; rintro e w' ⟨rfl, rfl⟩)
  all_goals go_wp2
  all_goals go_ret
  all_goals exact Ret.mk ⟨rfl, (Upd.refl No w).drew⟩
end Go.Proofs.YtoikhkanoffpfaaGreat
