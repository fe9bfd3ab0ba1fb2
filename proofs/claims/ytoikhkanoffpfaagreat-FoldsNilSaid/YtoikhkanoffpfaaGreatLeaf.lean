import Derived.Test.YtoikhkanoffpfaaGreatProg
import Derived.Test.YtoikhkanoffpfaaGreatMem
import Derived.Test.YtoikhkanoffpfaaGreatSpec
namespace Go.Proofs.YtoikhkanoffpfaaGreat
open Go.RowKit
set_option linter.unusedVariables false
set_option linter.unusedSimpArgs false

theorem engine_known (c : Int) (w : World) : Calls Tryz.prog 75 #[.int .u8 c] w fun e w' => e = .returned (.int .u8 (knownOf c)) ∧ w = w' := by
  go_enter Tryz.func75, Tryz.ntmps75
  go_wp2
  all_goals go_ret
  all_goals simp [knownOf, *]
  all_goals omega
theorem paras_known (c : Int) (w : World) : Calls Tryz.prog 54 #[.int .u8 c] w fun e w' => e = .returned (.int .u8 (knownOf c)) ∧ w = w' := by
  go_enter Tryz.func54, Tryz.ntmps54
  go_wp2
  all_goals go_ret
  all_goals simp [knownOf, *]
  all_goals omega
theorem spans_known (c : Int) (w : World) : Calls Tryz.prog 103 #[.int .u8 c] w fun e w' => e = .returned (.int .u8 (knownOf c)) ∧ w = w' := by
  go_enter Tryz.func103, Tryz.ntmps103
  go_wp2
  all_goals go_ret
  all_goals simp [knownOf, *]
  all_goals omega
theorem paras_asked (c : Int) (w : World) : Calls Tryz.prog 55 #[.int .i32 c] w fun e w' => e = .returned (.int .i32 (askedOf c)) ∧ w = w' := by
  go_enter Tryz.func55, Tryz.ntmps55
  go_wp2
  all_goals go_ret
  all_goals simp [askedOf, *]
  all_goals omega
theorem pairs_plain (c : Int) (w : World) : Calls Tryz.prog 88 #[.int .i32 c] w fun e w' => e = .returned (.int .i32 (askedOf c)) ∧ w = w' := by
  go_enter Tryz.func88, Tryz.ntmps88
  go_wp2
  all_goals go_ret
  all_goals simp [askedOf, *]
  all_goals omega
theorem paras_begins (c : Int) (w : World) : Calls Tryz.prog 105 #[.int .u8 c] w fun e w' => e = .returned (.bool (beginsOf c)) ∧ w = w' := by
  go_enter Tryz.func105, Tryz.ntmps105
  go_wp2
  all_goals go_ret
  all_goals simp [beginsOf, Bool.or_assoc, *]
theorem spans_begins (c : Int) (w : World) : Calls Tryz.prog 83 #[.int .u8 c] w fun e w' => e = .returned (.bool (beginsOf c)) ∧ w = w' := by
  go_enter Tryz.func83, Tryz.ntmps83
  go_wp2
  all_goals go_ret
  all_goals simp [beginsOf, Bool.or_assoc, *]
theorem spans_Removed (c : Int) (w : World) : Calls Tryz.prog 53 #[.int .u8 c] w fun e w' => e = .returned (.bool (remB c)) ∧ w = w' := by
  go_enter Tryz.func53, Tryz.ntmps53
  go_wp2
  all_goals go_ret
  all_goals (refine ⟨?_, rfl⟩; simp; grind [remB])
theorem spans_Way (l : Int) (w : World) : Calls Tryz.prog 63 #[.int .i8 l] w fun e w' => e = .returned (.int .u8 (wayOf l)) ∧ w = w' := by
  go_enter Tryz.func63, Tryz.ntmps63
  go_wp2
  all_goals go_ret
  all_goals (refine ⟨?_, rfl⟩; simp; grind [wayOf])
theorem engine_may (b : Int) (w : World) : Calls Tryz.prog 28 #[.int .i8 b] w fun e w' => e = .returned (.bool (mayB b)) ∧ w = w' := by
  go_enter Tryz.func28, Tryz.ntmps28
  go_wp2
  all_goals go_ret
  all_goals simp [mayB, Bool.or_assoc, *]
theorem engine_blank (c : Int) (w : World) : Calls Tryz.prog 50 #[.int .u8 c] w fun e w' => e = .returned (.bool (blankB c)) ∧ w = w' := by
  go_enter Tryz.func50, Tryz.ntmps50
  go_wp2
  all_goals go_ret
  all_goals (refine ⟨?_, rfl⟩; simp; grind [blankB])
theorem rest_Side (c : Int) (w : World) : Calls Tryz.prog 68 #[.int .u8 c] w fun e w' => e = .returned (.tuple #[.int .u8 (sideOf c), .bool (settledB c)]) ∧ w = w' := by
  go_enter Tryz.func68, Tryz.ntmps68
  go_wp2
  all_goals go_ret2
  all_goals (refine ⟨?_, rfl⟩; simp; grind [sideOf, settledB])
theorem rest_Neutral (c : Int) (w : World) : Calls Tryz.prog 69 #[.int .u8 c] w fun e w' => e = .returned (.bool (neutralB c)) ∧ w = w' := by
  go_enter Tryz.func69, Tryz.ntmps69
  go_wp2
  all_goals go_ret
  all_goals (refine ⟨?_, rfl⟩; simp; grind [neutralB])
theorem pairs_side (c : Int) (w : World) : Calls Tryz.prog 116 #[.int .u8 c] w fun e w' => e = .returned (.int .u8 (psideOf c)) ∧ w = w' := by
  go_enter Tryz.func116, Tryz.ntmps116
  go_wp2
  all_goals go_ret
  all_goals (refine ⟨?_, rfl⟩; simp; grind [psideOf])
theorem stack_turned (c : Int) (w : World) : Calls Tryz.prog 122 #[.int .u8 c] w fun e w' => e = .returned (.int .u8 (turnedOf c)) ∧ w = w' := by
  go_enter Tryz.func122, Tryz.ntmps122
  go_wp2
  all_goals go_ret
  all_goals (refine ⟨?_, rfl⟩; simp; grind [turnedOf])
theorem spans_edge (c : Int) (w : World) : Calls Tryz.prog 102 #[.int .u8 c] w fun e w' => e = .returned (.bool (edgeB c)) ∧ w = w' := by
  go_enter Tryz.func102, Tryz.ntmps102
  go_wp2
  all_goals go_ret
  all_goals simp [edgeB, *]
end Go.Proofs.YtoikhkanoffpfaaGreat
