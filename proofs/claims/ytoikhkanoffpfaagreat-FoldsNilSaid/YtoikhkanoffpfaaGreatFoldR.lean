import Derived.Test.YtoikhkanoffpfaaGreatFoldQ
namespace Go.Proofs.YtoikhkanoffpfaaGreat
open Go.RowKit Go.Shelf Go.Lib
attribute [local go_sem] Oper.semAt_some
set_option linter.unusedVariables false
set_option linter.unusedSimpArgs false

set_option maxRecDepth 10000 in
set_option maxHeartbeats 4000000 in
theorem each1_nil (D p0 p1 p2 p3 p4 : Nat) (A A2 : Option Addr) (n c n2 c2 : Nat) (b most : Int) (W : World) (Done : World → Prop)
    (hc : W.cell? ⟨p0, 0, none⟩ = some .nilIface ∧ W.cell? ⟨p1, 0, none⟩ = some (.int .i8 b) ∧ W.cell? ⟨p2, 0, none⟩ = some (.slice A n c) ∧ W.cell? ⟨p3, 0, none⟩ = some (.int .i64 most) ∧ W.cell? ⟨p4, 0, none⟩ = some (.slice A2 n2 c2))
    (hY : ∀ W1, Upd No W W1 → YieldAt Fence.wide 5 Tryz.prog (D + 1) #[zFold, .int .i64 1] W1 fun e W' => e = .returned (.bool true) ∧ Done W') :
    CallsIn Fence.wide 6 Tryz.prog 37 #[.func (.yield (D + 1)) #[] #[], .pointer (some ⟨p0, 0, none⟩), .pointer (some ⟨p1, 0, none⟩), .pointer (some ⟨p2, 0, none⟩), .pointer (some ⟨p3, 0, none⟩), .pointer (some ⟨p4, 0, none⟩)] W fun e W' => (∃ v, e = .returned v) ∧ Done W' := by
  obtain ⟨c0, c1, c2', c3, c4⟩ := hc
  refine callsIn_of_wp Tryz.func37 rfl trivial ?_ rfl
  simp only [Tryz.ntmps37, List.size_toArray, List.length_cons, List.length_nil, Nat.reduceAdd, Nat.reduceSub, Array.replicate_succ, Array.replicate_zero, List.push_toArray, List.append_toArray, List.nil_append, List.cons_append]
  have HY := Lib.hid hY
  clear hY
  gi_wp2_with fail
  refine ⟨trivial, (callsIn_wide.2 (folds_Lines_nil _ _ _ _ _ _ _ _ _)).mono ?_⟩
  rintro e w1 ⟨r, rfl, rfl, hu1⟩
  obtain ⟨fn, tmps, assign, body, hy, hR⟩ := HY.out w1 hu1
  unfold zFold at hy
  gi_wp2_with fail
  refine hR.mono ?_
  rintro e W' ⟨rfl, hd⟩
  gi_wp2_with fail
  exact bodyPost_ret (results_none rfl _ _ _) rfl ⟨⟨_, rfl⟩, hd⟩

theorem book_named {W : World} {D : Nat} {r : Loop} (h : Book W D r) : ∃ rc, Hid (rc = r) ∧ Book W D rc := ⟨r, rfl, h⟩

set_option maxRecDepth 10000 in
set_option maxHeartbeats 4000000 in
theorem law_nil (A A2 : Option Addr) (n c n2 c2 : Nat) (b : Int) (w : World) :
    Calls Tryz.prog 5 #[.int .i8 b, .slice A n c, .slice A2 n2 c2] w (Ret fun r w' => r = .bool true ∧ Upd No w w') := by
  refine (callsIn_wide (n := 7)).1 ?_
  refine callsIn_of_wp_marks Tryz.func5 rfl trivial ?_ rfl
  simp only [Tryz.ntmps5, List.size_toArray, List.length_cons, List.length_nil, Nat.reduceAdd, Nat.reduceSub, Array.replicate_succ, Array.replicate_zero, List.push_toArray, List.append_toArray, List.nil_append, List.cons_append]
  gi_wp2_with fail
  refine ⟨trivial, (callsIn_wide.2 (law_awake _)).mono ?_⟩
  rintro e w1 ⟨rfl, hu1⟩
  gi_wp2_with fail
  refine ⟨trivial, (callsIn_wide.2 (folds_Lines_nil _ _ _ _ _ _ _ _ _)).mono ?_⟩
  rintro e w2 ⟨r, rfl, rfl, hu2⟩
  gi_wp2_with fail
  refine ⟨trivial, (callsIn_wide.2 (folds_Each_nil _ _ _ _ _ _ _ _ _)).mono ?_⟩
  rintro e w3 ⟨r, rfl, rfl, _, hu3⟩
  have hq : ∀ (fn : Fn) (fi lb : Array Value) (W : World), (binOp .eql 54 (.func fn fi lb) .nilFunc).run Tryz.prog W = .ok (.bool false) W := fun fn fi lb W => by kernel_rfl
  gi_wp2_with fail
  clear hq
  refine ⟨trivial, (callsIn_wide.2 (folds_Each_nil _ _ _ _ _ _ _ _ _)).mono ?_⟩
  rintro e w4 ⟨r, rfl, rfl, hce, hu4⟩
  have kN : w4.heap[w2.heap.size]? = some (.cells #[.int .i64 0] 3 (0, 0)) := hu4.heap (hu3.heap (blk_new _ _ rfl) id) id
  have kB : w4.heap[w.heap.size]? = some (.cells #[.bool false] 4 (0, 0)) := hu4.heap (hu3.heap (blk_alloc (hu2.heap (hu1.heap (blk_new _ _ rfl) id) id) _) id) id
  have hs1 := hu1.size
  have hs2 := hu2.size
  have hs3 := hu3.size
  have hs4 := hu4.size
  simp only [World.size_alloc] at hs1 hs3
  have hup : Upd No w w4 := ((((((Upd.refl No w).alloc _).no hu1).no hu2).alloc _).no hu3).no hu4
  obtain ⟨Bn, hBn⟩ := named w2.heap.size
  obtain ⟨B0, hB0⟩ := named w.heap.size
  rw [← hBn.out] at kN ⊢
  rw [← hB0.out] at kB ⊢
  obtain ⟨DD, hDD⟩ := named w4.heap.size
  have hlts : B0 < Bn ∧ Bn < DD := by rw [hBn.out, hB0.out, hDD.out]; omega
  obtain ⟨hl1, hl2⟩ := hlts
  clear hu1 hu2 hu3 hu4 hs1 hs2 hs3 hs4
  gi_wp2_with fail
  have hwide : Fence.wide.round = none := rfl
  refine range_outer hwide (by decide) (gf := 37) rfl trivial (enters_of Tryz.func37 (by kernel_rfl) rfl)
    (fun W => W.heap[Bn]? = some (.cells #[.int .i64 1] 3 (0, 0)) ∧ Upd (fun k => k = Bn) w4 W)
    (fun _ _ => False) ?_ ?_ ?_
  · intro fn W hfn hbk hW hWs
    rw [← hDD.out] at hbk hWs ⊢
    obtain ⟨rc, hrc, hbk1⟩ := book_named hbk
    rw [← hrc.out]
    refine (each1_nil DD _ _ _ _ _ _ _ _ _ _ _ _ _ W (fun W2 => Book W2 DD rc ∧ W2.heap[Bn]? = some (.cells #[.int .i64 1] 3 (0, 0)) ∧ Upd (fun k => k = Bn) w4 W2) ⟨hW.cell hce.1 id, hW.cell hce.2.1 id, hW.cell hce.2.2.1 id, hW.cell hce.2.2.2.1 id, hW.cell hce.2.2.2.2 id⟩ ?_).mono ?_
    · intro W1 hu1
      have hbkA := hbk1.upd hu1 id id
      have hlt1 := hbkA.lt
      refine yield_on trivial hrc.out hbkA rfl ?_
      clear hbk hrc
      unfold zFold
      gi_wp2_with fail
      refine ⟨hbkA.upd ((Upd.refl No _).alloc _) id id, ?_⟩
      intro W5 rb hu5 hb5
      have hx5 := hu5.heap (blk_new W1 (.cells #[.int .i64 0, .int .i64 0, .int .i64 0, .slice none 0 0, .slice none 0 0] 43) rfl) (show ¬ (W1.heap.size = DD + 1) by omega)
      have hn5 := hu5.heap (blk_alloc (hu1.heap (hW.heap kN id) id) _) (show ¬ (Bn = DD + 1) by omega)
      have x0 : W5.cell? ⟨W1.heap.size, 0, none⟩ = some (.int .i64 0) := blk_cell hx5 0
      have x1 : W5.cell? ⟨W1.heap.size, 1, none⟩ = some (.int .i64 0) := blk_cell hx5 1
      have x2 : W5.cell? ⟨W1.heap.size, 2, none⟩ = some (.int .i64 0) := blk_cell hx5 2
      have x3 : W5.cell? ⟨W1.heap.size, 3, none⟩ = some (.slice none 0 0) := blk_cell hx5 3
      have x4 : W5.cell? ⟨W1.heap.size, 4, none⟩ = some (.slice none 0 0) := blk_cell hx5 4
      have hupA : Upd (fun k => k = Bn) w4 W5 := ((hW.no hu1).alloc (.cells #[.int .i64 0, .int .i64 0, .int .i64 0, .slice none 0 0, .slice none 0 0] 43)).mono (fun _ _ h => h.elim) |>.trans hu5 (fun i hi h => by rw [← hDD.out] at hi; omega)
      gi_wp2_with fail
      refine ⟨trivial, (callsIn_wide.2 (same_zero _)).mono ?_⟩
      rintro e W6 ⟨rfl, hu6⟩
      have hn6 := hu6.heap hn5 id
      have n0 : W6.cell? ⟨Bn, 0, none⟩ = some (.int .i64 0) := blk_cell hn6 0
      have nf := blk_frozen hn6 0
      gi_wp2_with fail
      have hset := blk_set hn6 0 (.int .i64 1)
      have hbk6 := (hb5.upd hu6 id id).upd (Upd.set (Upd.refl (fun k => k = Bn) W6) ⟨Bn, 0, none⟩ (.int .i64 1) (fun _ => rfl)) (show ¬ (DD = Bn) by omega) (show ¬ (DD + 1 = Bn) by omega)
      refine ⟨hbk6, ?_⟩
      intro W3 hu3 hb3
      refine ⟨hb3, hu3.heap hset (show ¬ (Bn = DD + 1) by omega), ?_⟩
      exact (Upd.set (hupA.no hu6) ⟨Bn, 0, none⟩ (.int .i64 1) (fun _ => rfl)).trans hu3 (fun i hi h => by rw [← hDD.out] at hi; omega)
    · rintro e W2 ⟨hv, hb2, h1, h2⟩
      exact ⟨hv, .inl ⟨hb2, h1, h2⟩⟩
  · rintro W W2 ⟨h1, h2⟩ hu2 hdef hrec
    rw [← hDD.out] at hu2 hdef hrec
    have hn2 := hu2.heap h1 (show ¬ (Bn = DD + 1) by omega)
    have hk2 := hu2.heap (h2.heap kB (show ¬ (B0 = Bn) by omega)) (show ¬ (B0 = DD + 1) by omega)
    have n0 : W2.cell? ⟨Bn, 0, none⟩ = some (.int .i64 1) := blk_cell hn2 0
    clear hrec
    have HD := Lib.hid hdef
    clear hdef
    gi_wp2_with fail
    refine ⟨trivial, (callsIn_wide.2 (law_awake _)).mono ?_⟩
    rintro e W3 ⟨rfl, hu3⟩
    have hk3 := hu3.heap hk2 id
    have b0 : W3.cell? ⟨B0, 0, none⟩ = some (.bool false) := blk_cell hk3 0
    have bf := blk_frozen hk3 0
    have hd3 := hu3.heap HD.out id
    have HD3 := Lib.hid hd3
    clear hd3
    gi_wp2_with fail
    have htf := blk_set hk3 0 (.bool true)
    have hu6 : Upd (fun k => k = B0) W3 (W3.setCell ⟨B0, 0, none⟩ (.bool true)) := Upd.set (Upd.refl _ _) _ _ (fun _ => rfl)
    obtain ⟨W6, hW6⟩ := named (W3.setCell ⟨B0, 0, none⟩ (.bool true))
    rw [← hW6.out] at htf hu6 ⊢
    rw [← hDD.out]
    have hd6 := hu6.heap HD3.out (show ¬ (DD = B0) by omega)
    refine ⟨by simp, .inl ⟨_, _, rfl, run_takeDeferred hd6, ?_⟩⟩
    have hu7 := upd_put W6 DD (.deferred none) (fun k => k = DD) rfl
    obtain ⟨W7, hW7⟩ := named (W6.putObj DD (.deferred none))
    rw [← hW7.out] at hu7 ⊢
    have htf7 := hu7.heap htf (show ¬ (B0 = DD) by omega)
    have z0 := blk_cell htf7 0
    simp at z0
    have hwlt := hup.size
    have hb0 := hB0.out
    have hbn := hBn.out
    have hdd := hDD.out
    have hu8 : Upd (fun k => k = B0 ∨ k = Bn ∨ k = DD ∨ k = DD + 1) w4 W7 := ((((h2.mono (T := fun k => k = B0 ∨ k = Bn ∨ k = DD ∨ k = DD + 1) (fun _ _ h => .inr (.inl h))).trans hu2 (fun _ _ h => .inr (.inr (.inr h)))).no hu3).trans hu6 (fun _ _ h => .inl h)).trans hu7 (fun _ _ h => .inr (.inr (.inl h)))
    have huN : Upd No w W7 := hup.trans hu8 (fun k hk (h : _ ∨ _ ∨ _ ∨ _) => by omega)
    refine ⟨.bool true, ?_, Ret.mk ⟨rfl, huN⟩⟩
    simp [results, Tryz.results5, go_sem, z0]
  · intro c W W2 h
    exact h.elim
end Go.Proofs.YtoikhkanoffpfaaGreat
