import Derived.Test.YtoikhkanoffpfaaGreatFoldD
import Derived.Test.YtoikhkanoffpfaaGreatShelf
namespace Go.Proofs.YtoikhkanoffpfaaGreat
open Go.RowKit Go.Shelf Go.Lib
set_option linter.unusedVariables false
set_option linter.unusedSimpArgs false


def badW (x : Int) : Bool := x < 0 || 1048576 < x
theorem open_pred (w : World) : PredAt Tryz.prog 45 #[] (Value.int .i64) badW w := fun W x hb => by
  show Calls Tryz.prog 45 #[.int .i64 x] W _
  go_enter Tryz.func45, Tryz.ntmps45
  go_wp2
  all_goals (go_ret; exact ⟨by simp_all [badW], 0, rfl⟩)

theorem widths_any (b off c : Nat) (zs : List Int) (w : World) (hbig : zs.length ≤ 1048576) (hc : ∀ j, j < zs.length → w.cell? ⟨b, off + j, none⟩ = some (.int .i64 (zs.getD j 0))) :
    Calls Tryz.prog 44 #[.slice (some ⟨b, off, none⟩) zs.length c, .func (.func 45) #[] #[]] w fun e w' => e = .returned (.bool (zs.any badW)) ∧ ∃ q, w' = w.drewN q := by
  have eg : ∀ args w, (callFunc 45 args).run Tryz.prog w = .ok (.enter 45 args) w := enters_of Tryz.func45 (by kernel_rfl) rfl
  have hcon := AnyE.slices_ContainsFunc Tryz.containsInt (Value.int .i64) badW 45 #[] eg b off zs.length c zs w (open_pred w) (Nat.le_refl _) (by omega) (fun j hj => by rw [hc j hj, List.getElem!_eq_getElem?_getD]; rfl)
  rw [List.take_length] at hcon
  exact hcon
theorem widths_none (a : Option Addr) (c : Nat) (fv : Value) (w : World) :
    Calls Tryz.prog 44 #[.slice a 0 c, fv] w fun e w' => e = .returned (.bool false) ∧ w' = w := AnyE.slices_ContainsFunc_empty Tryz.containsInt a c fv w
end Go.Proofs.YtoikhkanoffpfaaGreat
