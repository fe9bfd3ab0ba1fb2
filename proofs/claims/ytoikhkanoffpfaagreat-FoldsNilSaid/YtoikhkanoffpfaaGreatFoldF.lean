import Derived.Test.YtoikhkanoffpfaaGreatFoldE
namespace Go.Proofs.YtoikhkanoffpfaaGreat
open Go.RowKit Go.Shelf Go.Lib
set_option linter.unusedVariables false
set_option linter.unusedSimpArgs false


/-- follows' question, in front of a stretch of characters: is none of them kept? -/
theorem follows_pred (w : World) : PredAt Tryz.prog 71 #[] (Value.int .u8) (fun c => !remB c) w := fun W x hb => by
  show Calls Tryz.prog 71 #[.int .u8 x] W _
  go_enter Tryz.func71, Tryz.ntmps71
  go_wp2_with (first | (go_at_call 53; refine (spans_Removed _ _).mono ?_; rintro e w' ⟨rfl, rfl⟩))
  all_goals (go_ret; exact ⟨by simp, 0, rfl⟩)
theorem kept_any (b off c : Nat) (zs : List Int) (w : World) (hbig : zs.length ≤ 1048576) (hc : ∀ j, j < zs.length → w.cell? ⟨b, off + j, none⟩ = some (.int .u8 (zs.getD j 0))) :
    Calls Tryz.prog 70 #[.slice (some ⟨b, off, none⟩) zs.length c, .func (.func 71) #[] #[]] w fun e w' => e = .returned (.bool (zs.any fun c => !remB c)) ∧ ∃ q, w' = w.drewN q := by
  have eg : ∀ args w, (callFunc 71 args).run Tryz.prog w = .ok (.enter 71 args) w := enters_of Tryz.func71 (by kernel_rfl) rfl
  have hcon := AnyE.slices_ContainsFunc Tryz.containsClass (Value.int .u8) (fun c => !remB c) 71 #[] eg b off zs.length c zs w (follows_pred w) (Nat.le_refl _) (by omega) (fun j hj => by rw [hc j hj, List.getElem!_eq_getElem?_getD]; rfl)
  rw [List.take_length] at hcon
  exact hcon
end Go.Proofs.YtoikhkanoffpfaaGreat
