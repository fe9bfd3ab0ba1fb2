import Derived.Test.YtoikhkanoffpfaaGreatFoldO
namespace Go.Proofs.YtoikhkanoffpfaaGreat
open Go.RowKit Go.Shelf Go.Lib
attribute [local go_sem ↓] Go.wp_at_zero Go.wp_at_succ
set_option linter.unusedVariables false
set_option linter.unusedSimpArgs false

theorem sl_lit {w : World} {g n : Nat} {cs : Array Value} {e : TypeId} {k : IntKind} {xs : List Int} (h : w.heap[g]? = some (.cells cs e (0, 0))) (hc : cs.toList = xs.map (Value.int k)) (hn : xs.length = n) : SlI w (fun b => b = g) k (.slice (some ⟨g, 0, none⟩) n n) xs := by
  subst hn
  refine ⟨_, _, rfl, Nat.le_refl _, .inr ⟨_, rfl, rfl, fun i hi => ?_⟩⟩
  rw [Addr.add_lit, Nat.zero_add, blk_cell h, ← Array.getElem?_toList, hc]
  simp [List.getD, hi]

def aC : List Int := [1, 1, 13, 2, 9, 1]
def aW : List Int := [1, 1, 1, 1, 0, 1]
def aL : List Int := [0, 0, 0, 1, 1, 0]
def aO : List Int := [0, 1, 2, 4, 3, 5]
theorem a_cut : cutOf aC aW 2 = [0, 3] := by decide
theorem a_marks : marksOf aC aL aO = [0, 1, 2, 3, 4, 5] := by decide
theorem a_breaks : brOf aC = [0, 3] := by decide
theorem a_clusters : clOf aC = [0, 1, 2, 3, 5] := by decide
theorem a_ok : OrderOk 6 aO := by
  refine ⟨?_, ?_⟩
  · intro i hi
    have : i < 6 := hi
    have : i = 0 ∨ i = 1 ∨ i = 2 ∨ i = 3 ∨ i = 4 ∨ i = 5 := by omega
    rcases this with rfl | rfl | rfl | rfl | rfl | rfl <;> decide
  · intro i j hij hj
    have : j < 6 := hj
    have : (List.range 6).all (fun j => (List.range j).all fun i => aO.getD i 0 != aO.getD j 0) = true := by decide
    have h1 := List.all_eq_true.1 this j (by simp; omega)
    have h2 := List.all_eq_true.1 h1 i (by simp; omega)
    simpa using h2

set_option maxRecDepth 10000 in
set_option maxHeartbeats 4000000 in
theorem law_awake (w : World) : Calls Tryz.prog 7 #[] w fun e w' => e = .returned (.bool true) ∧ Upd No w w' := by
  have l1 := fun (W : World) (g : Nat) (hg : W.heap.size = g) => sl_lit (xs := aC) (k := .u8) (blk_new W (.cells #[.int .u8 1, .int .u8 1, .int .u8 13, .int .u8 2, .int .u8 9, .int .u8 1] 22) hg) rfl rfl
  have l2 := fun (W : World) (g : Nat) (hg : W.heap.size = g) => sl_lit (xs := aW) (k := .i64) (blk_new W (.cells #[.int .i64 1, .int .i64 1, .int .i64 1, .int .i64 1, .int .i64 0, .int .i64 1] 3) hg) rfl rfl
  have l3 := fun (W : World) (g : Nat) (hg : W.heap.size = g) => sl_lit (xs := aL) (k := .i8) (blk_new W (.cells #[.int .i8 0, .int .i8 0, .int .i8 0, .int .i8 1, .int .i8 1, .int .i8 0] 46) hg) rfl rfl
  have l4 := fun (W : World) (g : Nat) (hg : W.heap.size = g) => sl_lit (xs := aO) (k := .i64) (blk_new W (.cells #[.int .i64 0, .int .i64 1, .int .i64 2, .int .i64 4, .int .i64 3, .int .i64 5] 3) hg) rfl rfl
  have L1 := Lib.hid l1
  have L2 := Lib.hid l2
  have L3 := Lib.hid l3
  have L4 := Lib.hid l4
  clear l1 l2 l3 l4
  go_enter Tryz.func7, Tryz.ntmps7
  have HO := Lib.hid a_ok
  go_wp2_with (first | (go_at_call 19; refine (folds_Cut _ _ aC aW 2 _ _ _ (by exact (L1.out w _ rfl).upd ((Upd.refl No _).alloc _) (fun _ _ _ => id)) (by exact L2.out _ _ (by simp)) (Flat.mk _ _ _ _) rfl (by decide) (by decide) (by decide) (by decide)).mono ?_; rintro e w1 ⟨r, rfl, va, rfl, hoa, hu1⟩; rw [a_cut] at hoa; have x1 := ((L1.out w _ rfl).upd ((Upd.refl No _).alloc _) (fun _ _ _ => id)).upd hu1 (fun _ _ _ => id); have u1 : Upd No w w1 := ((((Upd.refl No w).alloc _).alloc _).no hu1); clear hu1) | (go_at_call 20; refine (folds_Marks _ _ _ aC aL aO _ _ _ _ (Flat.mk _ _ _ _) (by exact x1.upd (((Upd.refl No _).alloc _).alloc _) (fun _ _ _ => id)) (by exact (L3.out w1 _ rfl).upd ((Upd.refl No _).alloc _) (fun _ _ _ => id)) (by exact L4.out _ _ (by simp)) rfl (by decide) (by decide) HO.out).mono ?_; rintro e w2 ⟨r, rfl, vb, rfl, hob, hu2⟩; rw [a_marks] at hob; have x2 := x1.upd ((((Upd.refl No w1).alloc _).alloc _).no hu2) (fun _ _ _ => id); have u2 : Upd No w1 w2 := ((((Upd.refl No w1).alloc _).alloc _).no hu2); clear hu2) | (go_at_call 21; refine (folds_Breaks _ aC _ _ (by exact x2) (by decide)).mono ?_; rintro e w3 ⟨vc, rfl, hoc, u3⟩; rw [a_breaks] at hoc; have x3 := x2.upd u3 (fun _ _ _ => id); have ha3 := (hoa.no u2).no u3; have hb3 := hob.no u3; obtain ⟨ga, ca, rfl, _, _, hca⟩ := ha3.pos (by decide); obtain ⟨gb, cb, rfl, _, _, hcb⟩ := hb3.pos (by decide); obtain ⟨gc, cc, rfl, _, _, hcc⟩ := hoc.pos (by decide); have f1 : w3.cell? ⟨ga, 1, none⟩ = some (.int .i64 3) := (ha3.at_ (i := 1) (by decide)).1; have f2 : w3.cell? ⟨gb, 3, none⟩ = some (.int .i64 3) := (hb3.at_ (i := 3) (by decide)).1; have f3 : w3.cell? ⟨gb, 4, none⟩ = some (.int .i64 4) := (hb3.at_ (i := 4) (by decide)).1; have f4 : w3.cell? ⟨gc, 1, none⟩ = some (.int .i64 3) := (hoc.at_ (i := 1) (by decide)).1; have UP := Lib.hid ((u1.no u2).no u3)) | (go_at_call 10; refine (folds_Clusters _ aC _ _ (by exact x3) (by decide)).mono ?_; rintro e w4 ⟨vd, rfl, hod, u4⟩; rw [a_clusters] at hod; obtain ⟨gd, cd, rfl, _, _, hcd⟩ := hod.pos (by decide)))
  go_ret
  exact ⟨rfl, UP.out.no u4⟩
end Go.Proofs.YtoikhkanoffpfaaGreat
