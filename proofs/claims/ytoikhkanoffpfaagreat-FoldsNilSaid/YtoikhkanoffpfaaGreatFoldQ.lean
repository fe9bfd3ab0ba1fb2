import Derived.Test.YtoikhkanoffpfaaGreatFoldP
import Derived.Test.YtoikhkanoffpfaaGreatMemIn
namespace Go.Proofs.YtoikhkanoffpfaaGreat
open Go.RowKit Go.Shelf Go.Lib
attribute [local go_sem ↓] Go.wp_at_zero Go.wp_at_succ
set_option linter.unusedVariables false
set_option linter.unusedSimpArgs false

set_option maxRecDepth 10000 in
set_option maxHeartbeats 2000000 in
theorem engine_Runes_nil (A : Option Addr) (n c : Nat) (b : Int) (w : World) :
    Calls Tryz.prog 12 #[.nilIface, .slice A n c, .int .i8 b] w (Ret fun r w' => r = .tuple #[.agg #[.int .i8 0, .slice none 0 0, .slice none 0 0], .int .i64 1] ∧ Upd No w w') := by
  go_enter Tryz.func12, Tryz.ntmps12
  go_wp2_with fail
  have z0 : (((w.alloc (Obj.cells #[.nilIface] 70)).alloc (Obj.cells #[.slice A n c] 28)).alloc (Obj.cells #[.int .i8 0, .slice none 0 0, .slice none 0 0] 48)).heap[w.heap.size + 1 + 1]? = some (.cells #[.int .i8 0, .slice none 0 0, .slice none 0 0] 48 (0, 0)) := blk_new _ _ (by simp)
  have y0 := blk_cell z0 0
  have y1 := blk_cell z0 1
  have y2 := blk_cell z0 2
  simp at y0 y1 y2
  exact bodyPost_ret (v := .tuple #[.agg #[.int .i8 0, .slice none 0 0, .slice none 0 0], .int .i64 1]) (by simp [results, Tryz.results12, go_sem, y0, y1, y2]) rfl (Ret.mk ⟨rfl, (((Upd.refl No w).alloc _).alloc _).alloc _⟩)

set_option maxRecDepth 10000 in
set_option maxHeartbeats 2000000 in
theorem folds_Lines_nil (A A2 : Option Addr) (n c n2 c2 : Nat) (b most : Int) (w : World) :
    Calls Tryz.prog 8 #[.nilIface, .int .i8 b, .slice A n c, .int .i64 most, .slice A2 n2 c2] w (Ret fun r w' => r = .tuple #[.slice none 0 0, .int .i64 1] ∧ Upd No w w') := by
  go_enter Tryz.func8, Tryz.ntmps8
  go_wp2_with (first | (go_at_call 12; refine (engine_Runes_nil _ _ _ _ _).mono ?_; rintro e w1 ⟨r, rfl, rfl, hu1⟩))
  go_ret2
  exact Ret.mk ⟨rfl, (hu1.alloc _)⟩

theorem folds_Each_nil (A A2 : Option Addr) (n c n2 c2 : Nat) (b most : Int) (w : World) :
    Calls Tryz.prog 13 #[.nilIface, .int .i8 b, .slice A n c, .int .i64 most, .slice A2 n2 c2] w (Ret fun r w' =>
      r = .func (.func 37) #[] #[.pointer (some ⟨w.heap.size, 0, none⟩), .pointer (some ⟨w.heap.size + 1, 0, none⟩), .pointer (some ⟨w.heap.size + 2, 0, none⟩), .pointer (some ⟨w.heap.size + 3, 0, none⟩), .pointer (some ⟨w.heap.size + 4, 0, none⟩)] ∧
      (w'.cell? ⟨w.heap.size, 0, none⟩ = some .nilIface ∧ w'.cell? ⟨w.heap.size + 1, 0, none⟩ = some (.int .i8 b) ∧ w'.cell? ⟨w.heap.size + 2, 0, none⟩ = some (.slice A n c) ∧ w'.cell? ⟨w.heap.size + 3, 0, none⟩ = some (.int .i64 most) ∧ w'.cell? ⟨w.heap.size + 4, 0, none⟩ = some (.slice A2 n2 c2)) ∧ Upd No w w') := by
  go_enter Tryz.func13, Tryz.ntmps13
  go_wp2_with fail
  go_ret
  refine Ret.mk ⟨by simp, ⟨?_, ?_, ?_, ?_, ?_⟩, (((((Upd.refl No w).alloc _).alloc _).alloc _).alloc _).alloc _⟩
  · exact blk_cell (blk_alloc (blk_alloc (blk_alloc (blk_alloc (blk_new w _ rfl) _) _) _) _) 0
  · exact blk_cell (blk_alloc (blk_alloc (blk_alloc (blk_new _ _ (by simp)) _) _) _) 0
  · exact blk_cell (blk_alloc (blk_alloc (blk_new _ _ (by simp)) _) _) 0
  · exact blk_cell (blk_alloc (blk_new _ _ (by simp)) _) 0
  · exact blk_cell (blk_new _ _ (by simp)) 0

theorem numbers_nil (w : World) : Calls Tryz.prog 38 #[.slice none 0 0, .slice none 0 0] w fun e w' => e = .returned (.bool true) ∧ w = w' := by
  go_enter Tryz.func38, Tryz.ntmps38
  go_wp2_with fail
  go_loop [5] (fun i => i = .int .i64 0) (fun _ => 0)
  case atStart => rfl
  case round =>
    subst hrel
    go_wp2_with fail
    go_ret
    exact ⟨rfl, rfl⟩

def zFold : Value := .agg #[.int .i64 0, .int .i64 0, .int .i64 0, .slice none 0 0, .slice none 0 0]
set_option maxRecDepth 10000 in
set_option maxHeartbeats 2000000 in
theorem same_zero (w : World) : Calls Tryz.prog 14 #[zFold, zFold] w fun e w' => e = .returned (.bool true) ∧ Upd No w w' := by
  unfold zFold
  go_enter Tryz.func14, Tryz.ntmps14
  go_wp2_with (first | (go_at_call 38; refine (numbers_nil _).mono ?_; rintro e w1 ⟨rfl, rfl⟩))
  go_loop [5] (fun i => i = .int .i64 0) (fun _ => 0)
  case atStart => rfl
  case round =>
    subst hrel
    go_wp2_with fail
    go_ret
    exact ⟨rfl, ((Upd.refl No w).alloc _).alloc _⟩
end Go.Proofs.YtoikhkanoffpfaaGreat
