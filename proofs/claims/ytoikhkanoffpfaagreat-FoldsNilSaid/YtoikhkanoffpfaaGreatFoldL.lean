import Derived.Test.YtoikhkanoffpfaaGreatFoldK
namespace Go.Proofs.YtoikhkanoffpfaaGreat
open Go.RowKit Go.Shelf Go.Lib
attribute [local go_sem ↓] Go.wp_at_zero Go.wp_at_succ
set_option linter.unusedVariables false
set_option linter.unusedSimpArgs false

/-! ### two rows of the call's own -/
def Apart (v u : Value) : Prop := ∀ q, v.ownBlock = some q → u.ownBlock ≠ some q
theorem Apart.symm {v u : Value} (h : Apart v u) : Apart u v := fun q h1 h2 => h q h2 h1
theorem Apart.nil (u : Value) : Apart (.slice none 0 0) u := fun q h => by cases h
theorem Apart.grown {W : World} {v v1 u : Value} {base : Nat} {e : TypeId} {k : IntKind} {ys : List Int} (hd : Apart v u) (hu : OwnI W base e k u ys) (hat : v1.ownBlock = v.ownBlock ∨ ∃ b, v1.ownBlock = some b ∧ W.heap.size ≤ b) : Apart v1 u := by
  intro q h1 h2
  rcases hat with h | ⟨b, h, hb⟩
  · exact hd q (h ▸ h1) h2
  · rw [h] at h1
    injection h1 with h1
    have := (hu.lt h2).2
    omega
theorem OwnI.grown_other {W w1 : World} {v u : Value} {base : Nat} {e : TypeId} {k : IntKind} {ys : List Int} (hu : OwnI W base e k u ys) (hg : W.grownBy w1 v.ownBlock) (hd : Apart v u) : OwnI w1 base e k u ys :=
  hu.kept fun g h => hg.block g (hu.lt h).2 (fun e => hd g e.symm h)
theorem OwnI.no {w w' : World} {base : Nat} {e : TypeId} {k : IntKind} {v : Value} {xs : List Int} (h : OwnI w base e k v xs) (hu : Upd No w w') : OwnI w' base e k v xs := h.upd hu fun _ _ => id

theorem ne_grown {W : World} {v v1 : Value} {B : Nat} (hn : ∀ g, v.ownBlock = some g → g ≠ B) (hat : v1.ownBlock = v.ownBlock ∨ ∃ b, v1.ownBlock = some b ∧ W.heap.size ≤ b) (hB : B < W.heap.size) : ∀ g, v1.ownBlock = some g → g ≠ B := by
  intro g h
  rcases hat with e | ⟨b, e, hb⟩
  · exact hn g (e ▸ h)
  · rw [e] at h
    injection h
    omega

theorem OwnI.isSlice {w : World} {base : Nat} {e : TypeId} {k : IntKind} {v : Value} {xs : List Int} (h : OwnI w base e k v xs) : ∃ A n c, v = .slice A n c := by
  obtain ⟨A, c, h, _⟩ := h.sl.form
  exact ⟨A, _, c, h⟩

/-! ### lines, plain -/
def lnGo (xs cl ws : List Int) (most : Int) : Nat → Nat → List Int × List Int → List Int × List Int
  | 0, _, acc => acc
  | d + 1, k, acc => if k < cl.length then lnGo xs cl ws most d (foldOf xs cl ws most k).1.toNat (acc.1 ++ [(k : Int)], acc.2 ++ [(foldOf xs cl ws most k).2]) else acc
def linesOf (xs cl ws : List Int) (most : Int) : List Int × List Int := lnGo xs cl ws most cl.length 0 ([], [])
def LinesSays (w : World) (l : List Int × List Int) (r : Value) (w' : World) : Prop :=
  ∃ v1 v2, r = .tuple #[v1, v2] ∧ OwnI w' w.heap.size 3 .i64 v1 l.1 ∧ OwnI w' w.heap.size 3 .i64 v2 l.2 ∧ Upd No w w'

set_option maxRecDepth 10000 in
set_option maxHeartbeats 4000000 in
theorem paper_lines (b : Nat) (v u z : Value) (most : Int) (xs cl ws : List Int) (D E G : Nat → Prop) (w : World) (h : Paper w b v u z most xs cl ws D E G) (ok : PaperOk xs cl ws) (hm0 : 0 ≤ most) (hm1 : most ≤ 1099511627776) :
    Calls Tryz.prog 23 #[.pointer (some ⟨b, 0, none⟩)] w (Ret (LinesSays w (linesOf xs cl ws most))) := by
  obtain ⟨A2, c2, rfl, hc2⟩ := h.cl_.form
  have hbl := blk_lt h.at_.blk
  have HP := Lib.hid h
  have HK := Lib.hid ok
  clear h ok
  have hcl1 : cl.length ≤ 1048576 := Nat.le_trans HK.out.le HK.out.n
  go_enter Tryz.func23, Tryz.ntmps23
  go_wp2_with fail
  go_loopw [5, 6, 7] (fun v1 v2 kv W => ∃ (k d : Nat) (acc : List Int × List Int), k ≤ cl.length ∧ cl.length - k ≤ d ∧ kv = .int .i64 k ∧ Hid (lnGo xs cl ws most d k acc = linesOf xs cl ws most) ∧ acc.1.length ≤ k ∧ acc.2.length ≤ k ∧
      OwnI W w.heap.size 3 .i64 v1 acc.1 ∧ OwnI W w.heap.size 3 .i64 v2 acc.2 ∧ Apart v1 v2 ∧ W.cell? ⟨w.heap.size, 0, none⟩ = some (.pointer (some ⟨b, 0, none⟩)) ∧ (∀ g, v1.ownBlock = some g → g ≠ w.heap.size) ∧ (∀ g, v2.ownBlock = some g → g ≠ w.heap.size) ∧ Upd No w W) (fun _ _ kv _ => cl.length - (intOf kv).toNat)
  case atStart => exact ⟨0, cl.length, ([], []), Nat.zero_le _, by omega, rfl, rfl, by simp, by simp, OwnI.nil _ _ _ _, OwnI.nil _ _ _ _, Apart.nil _, blk_cell (heap_alloc_new w _) 0, fun g h => (by cases h), fun g h => (by cases h), (Upd.refl No w).alloc _⟩
  case round =>
    obtain ⟨k, d, acc, hk, hd, rfl, hgo, hl1, hl2, ho1, ho2, hap, hbx, hn1, hn2, hb⟩ := hrel
    have hP := HP.out.upd hb id (fun _ _ => id) (fun _ _ => id) (fun _ _ => id)
    have p1 := hP.at_.c1
    by_cases hlt : k < cl.length
    · obtain ⟨d', hd'⟩ : ∃ d', Hid (d = d' + 1) := ⟨d - 1, by unfold Hid; omega⟩
      have hw := fun i hi => HK.out.w i (by rw [HK.out.wl]; exact hi)
      obtain ⟨n1, n2, n3, n4⟩ := foldOf_ok xs cl ws most k hlt hw
      have hgo' := hgo.out
      rw [hd'.out, lnGo, if_pos hlt] at hgo'
      obtain ⟨N, hN⟩ : ∃ N : Nat, (foldOf xs cl ws most k).1 = N := ⟨(foldOf xs cl ws most k).1.toNat, by omega⟩
      have hfo := fun (W : World) (h1 : Paper W b v (.slice A2 cl.length c2) z most xs cl ws D E G) (h2 : W.cell? ⟨w.heap.size, 0, none⟩ = some (.pointer (some ⟨b, 0, none⟩))) (h3 : b < W.heap.size) => paper_fold w.heap.size b v (.slice A2 cl.length c2) z most xs cl ws D E G k W h1 HK.out hlt h2 h3 hm0 hm1
      rw [hN] at hgo' hfo n1 n2
      rw [Int.toNat_natCast] at hgo'
      obtain ⟨q, hq⟩ := named (foldOf xs cl ws most k).2
      rw [← hq.out] at hgo' hfo n3 n4
      have HG := Lib.hid hgo'
      have HF := Lib.hid hfo
      have hbs := hb.size
      have hd2 : cl.length - N ≤ d' := by have := hd'.out; omega
      have HN := Lib.hid hN
      clear hgo' hfo hw hgo hN
      have hbl2 : b < wr.heap.size := by omega
      go_wp2_with (first | (go_at_call 47; refine (HF.out _ (by exact hP) (by exact hbx) (by exact hbl2)).mono ?_; rintro e w5 ⟨r, rfl, rfl, hu5⟩; have hs5 := hu5.size; have o1 := ho1.no hu5; have o2 := ho2.no hu5; have bx5 := hu5.cell hbx id) | (at_builtin; refine app_int w.heap.size rfl _ _ 29 3 .i64 8 rfl Tryz.underlying29 infoInt (by decide) _ _ _ o1 rfl rfl rfl (by omega) (by omega) ?_; intro va w6 oa hg6 hat6; have o2' := o2.grown_other hg6 hap; have hap' := hap.grown o2 hat6; have hs6 := hg6.size; have bx6 := hg6.cell bx5 (fun e => hn1 _ e.symm rfl)) | (at_builtin; refine app_int w.heap.size rfl _ _ 29 3 .i64 8 rfl Tryz.underlying29 infoInt (by decide) _ _ _ o2' rfl rfl rfl (by omega) (by omega) ?_; intro vb w7 ob hg7 hat7; have oa' := oa.grown_other hg7 hap'.symm; have hap2 := (hap'.symm.grown oa hat7).symm; have bx7 := hg7.cell bx6 (fun e => hn2 _ e.symm rfl)))
      have hB5 := World.block_lt_of_cell? w5 _ bx5
      have hB6 := World.block_lt_of_cell? w6 _ bx6
      have hn1' := ne_grown hn1 hat6 hB5
      have hn2' := ne_grown hn2 hat7 hB6
      have hup := ((hb.no hu5).grown hg6 (fun b hb' hlt' => by have := (o1.lt hb').1; omega)).grown hg7 (fun b hb' hlt' => by have := (o2'.lt hb').1; omega)
      go_roundw
      case rel => exact ⟨N, d', (acc.1 ++ [(k : Int)], acc.2 ++ [q]), by omega, hd2, by go_num, HG, by simp; omega, by simp; omega, oa', ob, hap2, bx7, hn1', hn2', hup⟩
      case measure => simp [intOf]; omega
    · go_wp2_with fail
      go_ret2
      have hz : Hid (linesOf xs cl ws most = acc) := by
        unfold Hid
        rw [← hgo.out]
        cases d with
        | zero => rfl
        | succ d => rw [lnGo, if_neg hlt]
      exact Ret.mk ⟨_, _, rfl, by rw [hz.out]; exact ho1, by rw [hz.out]; exact ho2, hb⟩
end Go.Proofs.YtoikhkanoffpfaaGreat
