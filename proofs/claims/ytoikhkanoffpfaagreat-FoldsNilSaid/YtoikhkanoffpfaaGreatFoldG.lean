import Derived.Test.YtoikhkanoffpfaaGreatFoldF
import Derived.Test.YtoikhkanoffpfaaGreatMemC
import Derived.Deep.QuietTactic
import Derived.BigQuiet
import Derived.Deep.DrawnRows
namespace Go.Proofs.YtoikhkanoffpfaaGreat
open Go.RowKit Go.Shelf Go.Lib
attribute [local go_sem ↓] Go.wp_at_zero Go.wp_at_succ
set_option linter.unusedVariables false
set_option linter.unusedSimpArgs false

/-- the next one ahead in the text, of one odd level -/
def folB (xs ls : List Int) (far near : Nat) : Bool :=
  decide (near < far) && (ls.getD near 0 == ls.getD far 0 && (ls.getD near 0).tmod 2 == 1) && !(((xs.drop (near + 1)).take (far - (near + 1))).any fun c => !remB c)

set_option maxRecDepth 10000 in
set_option maxHeartbeats 2000000 in
theorem folds_follows_no (A : Option Addr) (c : Nat) (xs ls : List Int) (u : Value) (E : Nat → Prop) (far near : Nat) (w : World) (hl : SlI w E .i8 u ls) (hfar : far < ls.length) (hnear : near < ls.length) (hm : ls.length ≤ 1048576)
    (hno : (decide (near < far) && (ls.getD near 0 == ls.getD far 0 && (ls.getD near 0).tmod 2 == 1)) = false) :
    Calls Tryz.prog 41 #[.slice A xs.length c, u, .int .i64 far, .int .i64 near] w (Ret fun r w' => r = .bool false ∧ ∃ q, w' = w.drewN q) := by
  obtain ⟨A2, c2, rfl, hc2⟩ := hl.form
  obtain ⟨ad, rfl, h1⟩ := hl.at_ hfar
  obtain ⟨_, e, h2⟩ := hl.at_ hnear
  cases e
  obtain ⟨x, hx⟩ := named (ls.getD far 0)
  obtain ⟨y, hy⟩ := named (ls.getD near 0)
  rw [← hx.out] at h1 hno
  rw [← hy.out] at h2 hno
  clear hl
  have w1 : (near : Int) < ls.length := by omega
  have w2 : (far : Int) < ls.length := by omega
  have w3 : 0 ≤ (near : Int) := by omega
  have w4 : 0 ≤ (far : Int) := by omega
  by_cases hg : near < far
  · have g1 : decide (far ≤ near) = false := by simp; omega
    by_cases he : y = x
    · subst he
      have h3 : (y.tmod 2 == 1) = false := by simpa [hg] using hno
      have h4 : (y.tmod 2 != 1) = true := by rw [bne, h3]; rfl
      have h5 : (y != y) = false := by simp
      go_enter Tryz.func41, Tryz.ntmps41
      go_wp2
      go_quiet (fail)
      go_wp2
      go_ret
      exact Ret.mk ⟨rfl, _, rfl⟩
    · have h5 : (y != x) = true := by simpa using he
      go_enter Tryz.func41, Tryz.ntmps41
      go_wp2
      go_quiet (fail)
      go_wp2
      go_ret
      exact Ret.mk ⟨rfl, _, rfl⟩
  · have g1 : decide (far ≤ near) = true := by simp; omega
    go_enter Tryz.func41, Tryz.ntmps41
    go_wp2
    go_quiet (fail)
    go_wp2
    go_ret
    exact Ret.mk ⟨rfl, _, rfl⟩

theorem kept_none (a : Option Addr) (n c : Nat) (fv : Value) (w : World) (hn : n = 0) :
    Calls Tryz.prog 70 #[.slice a n c, fv] w fun e w' => e = .returned (.bool false) ∧ w' = w := by subst hn; exact AnyE.slices_ContainsFunc_empty Tryz.containsClass a c fv w

theorem getD_drop_take (xs : List Int) (a n j : Nat) (h : j < n) : ((xs.drop a).take n).getD j 0 = xs.getD (a + j) 0 := by
  simp only [List.getD_eq_getElem?_getD, List.getElem?_take_of_lt h, List.getElem?_drop]

set_option maxRecDepth 10000 in
set_option maxHeartbeats 2000000 in
theorem folds_follows_yes (v : Value) (xs ls : List Int) (u : Value) (D E : Nat → Prop) (far near : Nat) (w : World) (hf : Flat v) (h : SlI w D .u8 v xs) (hl : SlI w E .i8 u ls) (hxl : ls.length = xs.length) (hfar : far < ls.length) (hm : ls.length ≤ 1048576)
    (hg : near < far) (hyes : (ls.getD near 0 == ls.getD far 0 && (ls.getD near 0).tmod 2 == 1) = true) :
    Calls Tryz.prog 41 #[v, u, .int .i64 far, .int .i64 near] w (Ret fun r w' => r = .bool (folB xs ls far near) ∧ ∃ q, w' = w.drewN q) := by
  obtain ⟨A2, c2, rfl, hc2⟩ := hl.form
  obtain ⟨ad, rfl, h1⟩ := hl.at_ hfar
  obtain ⟨_, e, h2⟩ := hl.at_ (show near < ls.length by omega)
  cases e
  have hB : folB xs ls far near = !(((xs.drop (near + 1)).take (far - (near + 1))).any fun c => !remB c) := by simp only [folB, hyes]; simp [hg]
  obtain ⟨x, hx⟩ := named (ls.getD far 0)
  obtain ⟨y, hy⟩ := named (ls.getD near 0)
  rw [← hx.out] at h1 hyes
  rw [← hy.out] at h2 hyes
  obtain ⟨rfl, h3⟩ : y = x ∧ y.tmod 2 = 1 := by simpa using hyes
  have h4 : (y.tmod 2 != 1) = false := by simp [h3]
  have h5 : (y != y) = false := by simp
  rcases h.flat_form hf with ⟨rfl, _⟩ | ⟨b, off, c, rfl, hc, hpos, hD⟩
  · exact absurd hxl (by simp only [List.length_nil]; omega)
  have HC : ∀ j, j < far - (near + 1) → w.cell? ⟨b, off + (near + 1) + j, none⟩ = some (.int .u8 (((xs.drop (near + 1)).take (far - (near + 1))).getD j 0)) := by
    intro j hj
    rw [getD_drop_take _ _ _ _ hj, Nat.add_assoc]
    exact h.flat_at (by omega)
  have HL : ((xs.drop (near + 1)).take (far - (near + 1))).length = far - (near + 1) := by simp; omega
  obtain ⟨zs, hz⟩ := named ((xs.drop (near + 1)).take (far - (near + 1)))
  rw [← hz.out] at hB HC HL
  rw [hB]
  have HC' := Lib.hid HC
  have HL' := Lib.hid HL
  clear hl hyes h hf hB h3 hz HC HL
  have w1 : (near : Int) < ls.length := by omega
  have w2 : (far : Int) < ls.length := by omega
  have w3 : 0 ≤ (near : Int) := by omega
  have w4 : 0 ≤ (far : Int) := by omega
  have g1 : decide (far ≤ near) = false := by simp; omega
  have hxl' := Lib.hid hxl
  have b1 : far ≤ c := by omega
  have b2 : near + 1 ≤ far := by omega
  have b3 : near + 1 ≤ c := by omega
  clear hxl
  have HK := Lib.hid (show far - (near + 1) = 0 → zs = [] from fun e => List.length_eq_zero_iff.1 (by rw [HL'.out]; exact e))
  by_cases he : near + 1 = far
  · have he' := Lib.hid (show far - (near + 1) = 0 by omega)
    clear he
    go_enter Tryz.func41, Tryz.ntmps41
    go_wp2
    go_quiet (fail)
    go_wp2_with (first | (go_at_call 70; refine (kept_none _ _ _ _ _ he'.out).mono ?_; rintro e w' ⟨rfl, rfl⟩))
    all_goals go_ret
    all_goals exact Ret.mk ⟨by rw [HK.out he'.out]; simp, _, rfl⟩
  · have e1 : ¬ (near + 1 = c) := by omega
    clear he
    have HZ := fun (w' : World) (hw : ∀ j, j < zs.length → w'.cell? ⟨b, off + (near + 1) + j, none⟩ = some (.int .u8 (zs.getD j 0))) => kept_any b (off + (near + 1)) (c - (near + 1)) zs w' (by rw [HL'.out]; omega) hw
    rw [HL'.out] at HZ
    have HZ' := Lib.hid HZ
    clear HZ
    go_enter Tryz.func41, Tryz.ntmps41
    go_wp2
    go_quiet (fail)
    go_wp2_with (first | (go_at_call 70; refine (HZ'.out _ (by intro j hj; exact HC'.out j hj)).mono ?_; rintro e w' ⟨rfl, q, rfl⟩))
    all_goals go_ret
    all_goals exact Ret.mk ⟨rfl, by first | exact ⟨_, rfl⟩ | exact ⟨_, World.drewN_drewN _ _ _⟩⟩

theorem folds_follows (v : Value) (xs ls : List Int) (u : Value) (D E : Nat → Prop) (far near : Nat) (w : World) (hf : Flat v) (h : SlI w D .u8 v xs) (hl : SlI w E .i8 u ls) (hxl : ls.length = xs.length) (hfar : far < ls.length) (hnear : near < ls.length) (hm : ls.length ≤ 1048576) :
    Calls Tryz.prog 41 #[v, u, .int .i64 far, .int .i64 near] w (Ret fun r w' => r = .bool (folB xs ls far near) ∧ ∃ q, w' = w.drewN q) := by
  cases hb : (decide (near < far) && (ls.getD near 0 == ls.getD far 0 && (ls.getD near 0).tmod 2 == 1)) with
  | false =>
    have e : folB xs ls far near = false := by simp only [folB, hb]; rfl
    rw [e]
    obtain ⟨A, c, rfl, hc⟩ := h.form
    exact folds_follows_no A c xs ls u E far near w hl hfar hnear hm hb
  | true =>
    have h2 := (Bool.and_eq_true_iff.1 hb)
    exact folds_follows_yes v xs ls u D E far near w hf h hl hxl hfar hm (by simpa using h2.1) h2.2
end Go.Proofs.YtoikhkanoffpfaaGreat
