import Derived.Test.YtoikhkanoffpfaaGreatFoldG
namespace Go.Proofs.YtoikhkanoffpfaaGreat
open Go.RowKit Go.Shelf Go.Lib
attribute [local go_sem ↓] Go.wp_at_zero Go.wp_at_succ
set_option linter.unusedVariables false
set_option linter.unusedSimpArgs false

theorem follows_quiet (v : Value) (xs ls : List Int) (u : Value) (D E : Nat → Prop) (far near : Nat) (w : World) (hf : Flat v) (h : SlI w D .u8 v xs) (hl : SlI w E .i8 u ls) (hxl : ls.length = xs.length) (hfar : far < ls.length) (hnear : near < ls.length) (hm : ls.length ≤ 1048576) :
    Calls Tryz.prog 41 #[v, u, .int .i64 far, .int .i64 near] w fun e w' => e = .returned (.bool (folB xs ls far near)) ∧ ∃ q, w' = w.drewN q :=
  (folds_follows v xs ls u D E far near w hf h hl hxl hfar hnear hm).mono fun e w' ⟨r, he, hr, hq⟩ => ⟨by rw [he, hr], hq⟩

/-! ### Marks, plain -/
def metTo (os : List Int) (n k : Nat) : List Int := upto (fun m _ (a : Int) => m.set a.toNat 1) (List.replicate n 0) os k
theorem met_len (os : List Int) (n : Nat) : ∀ k, (metTo os n k).length = n
  | 0 => by simp [metTo, upto]
  | k + 1 => by have := met_len os n k; simp only [metTo, upto] at this ⊢; simpa using this
theorem met_zero (os : List Int) (n p : Nat) : ∀ k, (∀ i, i < k → (os.getD i 0).toNat ≠ p) → (metTo os n k).getD p 0 = 0
  | 0, _ => by
    simp only [metTo, upto, List.getD_eq_getElem?_getD, List.getElem?_replicate]
    split <;> rfl
  | k + 1, h => by
    have h1 := met_zero os n p k (fun i hi => h i (by omega))
    have h2 := h k (by omega)
    simp only [metTo, upto] at h1 ⊢
    rw [List.getD_eq_getElem?_getD, List.getElem?_set_ne h2, ← List.getD_eq_getElem?_getD]
    exact h1
/-- places of an order: each one of the text's, none twice -/
structure OrderOk (n : Nat) (os : List Int) : Prop where
  r : ∀ i, i < os.length → 0 ≤ os.getD i 0 ∧ os.getD i 0 < n
  d : ∀ i j, i < j → j < os.length → os.getD i 0 ≠ os.getD j 0
/-- from where the row of marks ahead of a place begins -/
def frm (xs ls os : List Int) : Nat → Nat
  | 0 => 0
  | f + 1 => if (xs.getD (os.getD f 0).toNat 0 == 9 && folB xs ls (os.getD f 0).toNat (os.getD (f + 1) 0).toNat) = true then frm xs ls os f else f + 1
theorem frm_le (xs ls os : List Int) : ∀ f, frm xs ls os f ≤ f
  | 0 => Nat.le_refl _
  | f + 1 => by have := frm_le xs ls os f; simp only [frm]; split <;> omega
def revSeg (l : List Int) (f n : Nat) : List Int := l.take f ++ ((l.drop f).take n).reverse ++ l.drop (f + n)
theorem revSeg_len (l : List Int) (f n : Nat) (h : f + n ≤ l.length) : (revSeg l f n).length = l.length := by simp [revSeg]; omega
def mkStep (xs ls os acc : List Int) (to : Nat) (at_ : Int) : List Int := if xs.getD at_.toNat 0 = 9 then acc else revSeg acc (frm xs ls os to) (to + 1 - frm xs ls os to)
def marksTo (xs ls os : List Int) (k : Nat) : List Int := upto (mkStep xs ls os) os os k
def marksOf (xs ls os : List Int) : List Int := marksTo xs ls os os.length
theorem marks_len (xs ls os : List Int) : ∀ k, k ≤ os.length → (marksTo xs ls os k).length = os.length
  | 0, _ => by simp [marksTo, upto]
  | k + 1, h => by
    have h1 := marks_len xs ls os k (by omega)
    have h2 := frm_le xs ls os k
    simp only [marksTo, upto] at h1 ⊢
    rw [mkStep]
    split
    · exact h1
    · rw [revSeg_len _ _ _ (by omega)]; exact h1

theorem folds_reverse {w : World} {base : Nat} (g cap n0 : Nat) (l : List Int) (f n c : Nat) (h : OwnI w base 3 .i64 (.slice (some ⟨g, 0, none⟩) n0 cap) l) (hfn : f + n ≤ l.length) (hm : l.length ≤ 1048576) :
    Calls Tryz.prog 42 #[.slice (some ⟨g, f, none⟩) n c] w fun e w' => e = .returned (.tuple #[]) ∧ OwnI w' base 3 .i64 (.slice (some ⟨g, 0, none⟩) n0 cap) (revSeg l f n) ∧ Upd (fun k => k = g) w w' := by
  have hl : ((l.drop f).take n).length = n := by simp; omega
  have hH := h.holds f ((l.drop f).take n) (fun j hj => by
    rw [hl] at hj
    refine ⟨by omega, ?_⟩
    rw [getD_drop_take _ _ _ _ hj])
  have hc := AnyE.slices_Reverse Tryz.reverseInt (Value.int .i64) (fun _ => rfl) g f c ((l.drop f).take n) w hH (by rw [hl]; omega)
  rw [hl] at hc
  refine hc.mono ?_
  rintro e w' ⟨he, q, rfl⟩
  refine ⟨he, ?_, upd_putRow _ _ _ _ _ _ _ rfl⟩
  have := h.putRow q f ((l.drop f).take n).reverse (by simp; omega)
  rw [List.length_reverse, hl] at this
  exact this
end Go.Proofs.YtoikhkanoffpfaaGreat
