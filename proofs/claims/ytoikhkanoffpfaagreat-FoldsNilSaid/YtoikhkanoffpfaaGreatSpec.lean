/- Plain functions: what the program's functions compute. No program in sight. -/
namespace Go.Proofs.YtoikhkanoffpfaaGreat
/-! ### classes: L 1, R 2, AL 3, EN 4, ES 5, ET 6, AN 7, CS 8, NSM 9, BN 10, B 11, S 12, WS 13, ON 14, LRE 15, LRO 16, RLE 17, RLO 18, PDF 19, LRI 20, RLI 21, FSI 22, PDI 23 -/
def knownOf (c : Int) : Int := if c < 1 then 14 else if 23 < c then 14 else c
def askedOf (r : Int) : Int := if r < 0 then 65533 else if 1114111 < r then 65533 else r
def beginsOf (c : Int) : Bool := c == 20 || (c == 21 || c == 22)
def remB (c : Int) : Bool := c == 15 || (c == 17 || (c == 16 || (c == 18 || (c == 19 || c == 10))))
def wayOf (l : Int) : Int := if l < 0 then 0 else if 126 < l then 0 else if l % 2 = 0 then 1 else 2
def mayB (b : Int) : Bool := b == -1 || (b == 0 || b == 1)
def blankB (c : Int) : Bool := c == 13 || (c == 20 || (c == 21 || (c == 22 || c == 23)))
/-- rest's side of a class; 0: none -/
def sideOf (c : Int) : Int := if c = 1 then 1 else if c = 4 then 2 else if c = 7 then 2 else if c = 2 then 2 else 0
def settledB (c : Int) : Bool := c == 1 || (c == 4 || (c == 7 || c == 2))
def neutralB (c : Int) : Bool := c == 11 || (c == 12 || (c == 13 || (c == 14 || (c == 20 || (c == 21 || (c == 22 || (c == 23 || (decide (c < 1) || decide (23 < c)))))))))
/-- pairs' side of a class -/
def psideOf (c : Int) : Int := if c = 4 then 2 else if c = 7 then 2 else if c = 3 then 2 else if c = 2 then 2 else if c = 1 then 1 else 0
def turnedOf (c : Int) : Int := if c = 18 then 2 else if c = 16 then 1 else 0
def edgeB (c : Int) : Bool := c == 1 || c == 2
/-- what a loop 'for i, c := range xs' has made after k rounds -/
def upto {σ : Type} (f : σ → Nat → Int → σ) (s : σ) (xs : List Int) : Nat → σ
  | 0 => s
  | k + 1 => f (upto f s xs k) k (xs.getD k 0)
/-! ### spans.Kept -/
def keptStep (acc : List Int) (i : Nat) (c : Int) : List Int := if remB c = true then acc else acc ++ [(i : Int)]
def keptOf (xs : List Int) : List Int := upto keptStep [] xs xs.length
theorem kept_le (xs : List Int) : ∀ k, (upto keptStep [] xs k).length ≤ k
  | 0 => Nat.le_refl _
  | k + 1 => by
    have := kept_le xs k
    simp only [upto, keptStep]
    split
    · omega
    · simp; omega
/-! ### paras.Match: what has been found, and the pile -/
def matchStep (n : Nat) (st : List Int × List Int) (i : Nat) (c : Int) : List Int × List Int :=
  let out := st.1.set i (-1)
  if beginsOf c = true then (out.set i n, st.2 ++ [(i : Int)])
  else if c = 23 ∧ 0 < st.2.length then
    let j := st.2.getD (st.2.length - 1) 0
    ((out.set i j).set j.toNat i, st.2.take (st.2.length - 1))
  else if c = 11 then (out, [])
  else (out, st.2)
def matchTo (xs : List Int) (k : Nat) : List Int × List Int := upto (matchStep xs.length) (List.replicate xs.length 0, []) xs k
def matchOf (xs : List Int) : List Int := (matchTo xs xs.length).1
theorem matchStep_len (n : Nat) (st : List Int × List Int) (i : Nat) (c : Int) : (matchStep n st i c).1.length = st.1.length := by
  unfold matchStep
  simp only
  split
  · simp
  · split
    · simp
    · split <;> simp
theorem match_len (xs : List Int) : ∀ k, (matchTo xs k).1.length = xs.length
  | 0 => by simp [matchTo, upto]
  | k + 1 => by
    have := match_len xs k
    simp only [matchTo, upto] at this ⊢
    rw [matchStep_len, this]
theorem match_pile (xs : List Int) : ∀ k, (matchTo xs k).2.length ≤ k ∧ ∀ m, m < (matchTo xs k).2.length → 0 ≤ (matchTo xs k).2.getD m 0 ∧ (matchTo xs k).2.getD m 0 < k
  | 0 => by simp [matchTo, upto]
  | k + 1 => by
    obtain ⟨h1, h2⟩ := match_pile xs k
    show (matchStep xs.length (matchTo xs k) k (xs.getD k 0)).2.length ≤ k + 1 ∧ _
    have e : (matchTo xs (k + 1)) = matchStep xs.length (matchTo xs k) k (xs.getD k 0) := rfl
    rw [e]
    generalize matchTo xs k = st at h1 h2
    unfold matchStep
    simp only
    split
    · refine ⟨by simp; omega, fun m hm => ?_⟩
      by_cases hlt : m < st.2.length
      · have := h2 m hlt
        have e2 : (st.2 ++ [(k : Int)]).getD m 0 = st.2.getD m 0 := by simp only [List.getD_eq_getElem?_getD]; rw [List.getElem?_append_left hlt]
        simp only [e2]
        omega
      · have : m = st.2.length := by simp at hm; omega
        subst this
        simp; omega
    · split
      · refine ⟨by simp; omega, fun m hm => ?_⟩
        have hm' : m < st.2.length := by simp at hm; omega
        have := h2 m hm'
        have hmm : m < st.2.length - 1 := by simp at hm; omega
        simp only [List.getD_eq_getElem?_getD, List.getElem?_take_of_lt hmm] at this ⊢
        omega
      · split
        · simp
        · exact ⟨by simp only; omega, fun m hm => by have := h2 m hm; simp only; omega⟩
/-! ### paras.First, of the whole list; paras.Level -/
def strongB (c : Int) : Bool := c == 1 || (c == 2 || c == 3)
def firstFrom (xs m : List Int) : Nat → Nat → Int → Option Nat
  | 0, _, _ => none
  | d + 1, i, skip =>
    if (i : Int) < skip then firstFrom xs m d (i + 1) skip
    else if strongB (xs.getD i 0) = true then some i
    else if beginsOf (xs.getD i 0) = true then firstFrom xs m d (i + 1) (m.getD i 0)
    else firstFrom xs m d (i + 1) skip
def firstOf (xs : List Int) : Option Nat := firstFrom xs (matchOf xs) xs.length 0 0
def levelOf (xs : List Int) (b : Int) : Int := if b = -1 then (match firstOf xs with | some i => if xs.getD i 0 = 1 then 0 else 1 | none => 0) else b
theorem firstFrom_lt (xs m : List Int) : ∀ d i skip r, firstFrom xs m d i skip = some r → i ≤ r ∧ r < i + d
  | 0, _, _, _, h => by simp [firstFrom] at h
  | d + 1, i, skip, r, h => by
    simp only [firstFrom] at h
    split at h
    · have := firstFrom_lt xs m d _ _ _ h; omega
    · split at h
      · injection h; omega
      · split at h
        · have := firstFrom_lt xs m d _ _ _ h; omega
        · have := firstFrom_lt xs m d _ _ _ h; omega
/-! ### engine.whole -/
def badB (cs rs : List Int) (i : Nat) : Bool :=
  decide (cs.getD i 0 = 11) && (decide (i + 1 ≠ cs.length) && (decide (i + 2 ≠ cs.length) || (decide (rs.length = 0) || (decide (rs.getD i 0 ≠ 13) || (decide (rs.getD (cs.length - 1) 0 ≠ 10) || decide (cs.getD (cs.length - 1) 0 ≠ 11))))))
def wholeB (cs rs : List Int) : Bool := (List.range cs.length).all fun i => !badB cs rs i
theorem whole_true {cs rs : List Int} (h : ∀ i, i < cs.length → badB cs rs i = false) : wholeB cs rs = true := by
  simp only [wholeB, List.all_eq_true, List.mem_range]
  intro i hi
  simp [h i hi]
theorem whole_false {cs rs : List Int} {i : Nat} (hi : i < cs.length) (h : badB cs rs i = true) : wholeB cs rs = false := by
  simp only [wholeB, List.all_eq_false, List.mem_range]
  exact ⟨i, hi, by simp [h]⟩
end Go.Proofs.YtoikhkanoffpfaaGreat
