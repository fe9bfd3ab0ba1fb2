import Derived.Test.YtoikhkanoffpfaaGreatSpec
import Derived.WalkKit
import Derived.Deep.QuietTactic
import Derived.BigQuiet
import Derived.KernelRfl
import Derived.Maps.AppendAt
import Derived.WalkLawsBesides
import Derived.WalkSpells
import Derived.Lib.Hide
import Derived.Deep.AppendLies
import Derived.Deep.OwnRows
namespace Go.Proofs.YtoikhkanoffpfaaGreat
open Go.RowKit
set_option linter.unusedVariables false

/-! ### what has turned between two worlds -/
/-- Nothing that was there has turned, but in the blocks of S. -/
structure Upd (S : Nat → Prop) (w w' : World) : Prop where
  os : w'.os = w.os
  tape : w'.tape = w.tape
  output : w'.output = w.output
  size : w.heap.size ≤ w'.heap.size
  keep : ∀ k, k < w.heap.size → ¬ S k → w'.heap[k]? = w.heap[k]?
def No : Nat → Prop := fun _ => False
theorem Upd.refl (S : Nat → Prop) (w : World) : Upd S w w := ⟨rfl, rfl, rfl, Nat.le_refl _, fun _ _ _ => rfl⟩
theorem Upd.trans {S T : Nat → Prop} {a b c : World} (h : Upd S a b) (k : Upd T b c) (hT : ∀ i, i < a.heap.size → T i → S i) : Upd S a c :=
  ⟨k.os.trans h.os, k.tape.trans h.tape, k.output.trans h.output, Nat.le_trans h.size k.size,
   fun i hi hS => (k.keep i (Nat.lt_of_lt_of_le hi h.size) (fun ht => hS (hT i hi ht))).trans (h.keep i hi hS)⟩
theorem Upd.no {S : Nat → Prop} {a b c : World} (h : Upd S a b) (k : Upd No b c) : Upd S a c := h.trans k (fun _ _ h => h.elim)
theorem Upd.mono {S T : Nat → Prop} {w w' : World} (h : Upd S w w') (hT : ∀ i, i < w.heap.size → S i → T i) : Upd T w w' :=
  ⟨h.os, h.tape, h.output, h.size, fun k hk hn => h.keep k hk (fun hs => hn (hT k hk hs))⟩
theorem Upd.alloc {S : Nat → Prop} {a w : World} (h : Upd S a w) (o : Obj) : Upd S a (w.alloc o) :=
  h.no ⟨rfl, rfl, rfl, by simp, fun k hk _ => Below.heap_alloc _ _ _ hk⟩
theorem Upd.drew {S : Nat → Prop} {a w : World} (h : Upd S a w) : Upd S a w.drew := ⟨h.os, h.tape, h.output, h.size, h.keep⟩
theorem Upd.drewN {S : Nat → Prop} {a w : World} (h : Upd S a w) (n : Nat) : Upd S a (w.drewN n) := ⟨h.os, h.tape, h.output, h.size, h.keep⟩
theorem Upd.set {S : Nat → Prop} {a w : World} (h : Upd S a w) (p : Addr) (u : Value) (hp : p.block < a.heap.size → S p.block) : Upd S a (w.setCell p u) :=
  ⟨h.os, h.tape, h.output, by simpa [World.setCell] using h.size, fun k hk hn => by
    rw [Below.heap_setCell _ _ _ _ (fun e => hn (by subst e; exact hp hk))]; exact h.keep k hk hn⟩
theorem Upd.grown {S : Nat → Prop} {a w w' : World} {row : Option Nat} (h : Upd S a w) (hg : w.grownBy w' row) (hr : ∀ k, row = some k → k < a.heap.size → S k) : Upd S a w' :=
  ⟨hg.os.trans h.os, hg.tape.trans h.tape, hg.output.trans h.output, Nat.le_trans h.size hg.size,
   fun k hk hn => (hg.block k (Nat.lt_of_lt_of_le hk h.size) (fun e => hn (hr k e.symm hk))).trans (h.keep k hk hn)⟩
theorem Upd.of_below {w w' : World} (h : Below w.heap.size w w') : Upd No w w' := ⟨h.os, h.tape, h.output, h.size, fun k hk _ => h.block k hk⟩
theorem Upd.below {w w' : World} (h : Upd No w w') : Below w.heap.size w w' := ⟨h.os, h.tape, h.output, h.size, fun k hk => h.keep k hk (fun x => x)⟩
theorem Upd.heap {S : Nat → Prop} {w w' : World} (h : Upd S w w') {k : Nat} {o : Obj} (hk : w.heap[k]? = some o) (hn : ¬ S k) : w'.heap[k]? = some o :=
  (h.keep k (Array.getElem?_eq_some_iff.1 hk).1 hn).trans hk
theorem Upd.cell {S : Nat → Prop} {w w' : World} (h : Upd S w w') {p : Addr} {v : Value} (hc : w.cell? p = some v) (hn : ¬ S p.block) : w'.cell? p = some v :=
  (World.cell?_of_block (w := w) (h.keep p.block (World.block_lt_of_cell? w p hc) hn)).trans hc

/-! ### blocks that are known whole -/
theorem blk_lt {w : World} {g : Nat} {o : Obj} (h : w.heap[g]? = some o) : g < w.heap.size := (Array.getElem?_eq_some_iff.1 h).1
theorem blk_cell {w : World} {g : Nat} {t : TypeId} {cs : Array Value} (h : w.heap[g]? = some (.cells cs t (0, 0))) (i : Nat) : w.cell? ⟨g, i, none⟩ = cs[i]? := cell_of_row w g i cs t (0, 0) h
theorem blk_frozen {w : World} {g : Nat} {t : TypeId} {cs : Array Value} (h : w.heap[g]? = some (.cells cs t (0, 0))) (i : Nat) : w.frozen? ⟨g, i, none⟩ = false := by simp [World.frozen?, h]
theorem blk_set {w : World} {g : Nat} {t : TypeId} {cs : Array Value} (h : w.heap[g]? = some (.cells cs t (0, 0))) (i : Nat) (u : Value) : (w.setCell ⟨g, i, none⟩ u).heap[g]? = some (.cells (cs.setIfInBounds i u) t (0, 0)) := by
  simp [World.setCell, Array.getElem?_modify, h]
theorem blk_far {w : World} {g : Nat} {o : Obj} (h : w.heap[g]? = some o) {p : Addr} (hp : g ≠ p.block) (u : Value) : (w.setCell p u).heap[g]? = some o := (Below.heap_setCell w p u g hp).trans h
theorem blk_alloc {w : World} {g : Nat} {o : Obj} (h : w.heap[g]? = some o) (o' : Obj) : (w.alloc o').heap[g]? = some o := (Below.heap_alloc w o' g (blk_lt h)).trans h

/-! ### a slice of whole numbers that is read -/
/-- v reads as xs, in blocks of D. -/
def SlI (w : World) (D : Nat → Prop) (k : IntKind) (v : Value) (xs : List Int) : Prop :=
  ∃ A c, v = .slice A xs.length c ∧ xs.length ≤ c ∧ (xs = [] ∨ ∃ ad, A = some ad ∧ D ad.block ∧ ∀ i, i < xs.length → w.cell? (ad.add i) = some (.int k (xs.getD i 0)))
theorem add_block (a : Addr) (n : Nat) : (a.add n).block = a.block := by unfold Addr.add; split <;> rfl
theorem SlI.keep {w w' : World} {D : Nat → Prop} {k : IntKind} {v : Value} {xs : List Int} (h : SlI w D k v xs) (hk : ∀ b, D b → b < w.heap.size → w'.heap[b]? = w.heap[b]?) : SlI w' D k v xs := by
  obtain ⟨A, c, rfl, hc, h⟩ := h
  refine ⟨A, c, rfl, hc, ?_⟩
  rcases h with h | ⟨ad, rfl, hD, h⟩
  · exact .inl h
  · refine .inr ⟨ad, rfl, hD, fun i hi => ?_⟩
    have h0 := h i hi
    have hlt := World.block_lt_of_cell? w _ h0
    rw [World.cell?_of_block (w := w) (hk _ (by rw [add_block]; exact hD) hlt)]; exact h0
theorem SlI.upd {w w' : World} {D S : Nat → Prop} {k : IntKind} {v : Value} {xs : List Int} (h : SlI w D k v xs) (hu : Upd S w w') (hS : ∀ b, D b → b < w.heap.size → ¬ S b) : SlI w' D k v xs :=
  h.keep fun b hD hb => hu.keep b hb (hS b hD hb)
theorem SlI.mono {w : World} {D D' : Nat → Prop} {k : IntKind} {v : Value} {xs : List Int} (h : SlI w D k v xs) (hD : ∀ b, D b → b < w.heap.size → D' b) : SlI w D' k v xs := by
  obtain ⟨A, c, rfl, hc, h⟩ := h
  refine ⟨A, c, rfl, hc, ?_⟩
  rcases h with h | ⟨ad, rfl, hd, h⟩
  · exact .inl h
  · by_cases hx : xs = []
    · exact .inl hx
    · have h0 := h 0 (List.length_pos_iff.2 hx)
      have hlt := World.block_lt_of_cell? w _ h0
      rw [add_block] at hlt
      exact .inr ⟨ad, rfl, hD _ hd hlt, h⟩
theorem SlI.at_ {w : World} {D : Nat → Prop} {k : IntKind} {A : Option Addr} {n c : Nat} {xs : List Int} (h : SlI w D k (.slice A n c) xs) {i : Nat} (hi : i < n) :
    ∃ ad, A = some ad ∧ w.cell? (ad.add i) = some (.int k (xs.getD i 0)) := by
  obtain ⟨A', c', hv, hc, h⟩ := h
  injection hv with h1 h2 h3
  subst h1 h2 h3
  rcases h with h | ⟨ad, rfl, hd, h⟩
  · subst h; simp at hi
  · exact ⟨ad, rfl, h i hi⟩
theorem SlI.form {w : World} {D : Nat → Prop} {k : IntKind} {v : Value} {xs : List Int} (h : SlI w D k v xs) : ∃ A c, v = .slice A xs.length c ∧ xs.length ≤ c := by
  obtain ⟨A, c, hv, hc, _⟩ := h; exact ⟨A, c, hv, hc⟩
theorem SlI.nil (w : World) (D : Nat → Prop) (k : IntKind) (A : Option Addr) (c : Nat) : SlI w D k (.slice A 0 c) [] := ⟨A, c, rfl, Nat.zero_le _, .inl rfl⟩

/-! ### a row of whole numbers of the call's own -/
def OwnI (w : World) (base : Nat) (e : TypeId) (k : IntKind) (v : Value) (xs : List Int) : Prop := w.ownsRow base e 1 v xs.length (xs.map (Value.int k))
theorem OwnI.nil (w : World) (base : Nat) (e : TypeId) (k : IntKind) : OwnI w base e k (.slice none 0 0) [] := World.ownsRow_nil w base e 1
theorem OwnI.form {w : World} {base : Nat} {e : TypeId} {k : IntKind} {v : Value} {xs : List Int} (h : OwnI w base e k v xs) :
    (v = .slice none 0 0 ∧ xs = []) ∨ ∃ g cap cur, v = .slice (some ⟨g, 0, none⟩) xs.length cap ∧ base ≤ g ∧ w.heap[g]? = some (.cells cur e (0, 0)) ∧ xs.length ≤ cap ∧ cur.size = cap ∧ cur.toList.take xs.length = xs.map (Value.int k) := by
  obtain ⟨_, h⟩ := h
  rcases h with ⟨h1, h2⟩ | ⟨g, cap, cur, h1, h2, h3, h4, h5, h6, h7⟩
  · exact .inl ⟨h1, List.eq_nil_of_length_eq_zero h2⟩
  · exact .inr ⟨g, cap, cur, h1, h2, h3, h4, by simpa using h6, by simpa using h7⟩
/-- of a row with an element: where it lies -/
theorem OwnI.pos {w : World} {base : Nat} {e : TypeId} {k : IntKind} {v : Value} {xs : List Int} (h : OwnI w base e k v xs) (hx : 0 < xs.length) :
    ∃ g cap, v = .slice (some ⟨g, 0, none⟩) xs.length cap ∧ base ≤ g ∧ g < w.heap.size ∧ xs.length ≤ cap := by
  rcases h.form with ⟨_, h⟩ | ⟨g, cap, cur, h1, h2, h3, h4, _⟩
  · subst h; simp at hx
  · exact ⟨g, cap, h1, h2, blk_lt h3, h4⟩
theorem OwnI.at_ {w : World} {base g n cap : Nat} {e : TypeId} {k : IntKind} {xs : List Int} (h : OwnI w base e k (.slice (some ⟨g, 0, none⟩) n cap) xs) {i : Nat} (hi : i < xs.length) :
    w.cell? ⟨g, i, none⟩ = some (.int k (xs.getD i 0)) ∧ w.frozen? ⟨g, i, none⟩ = false := by
  rcases h.form with ⟨h, _⟩ | ⟨g', cap', cur, h1, h2, h3, h4, h5, h6⟩
  · cases h
  · injection h1 with h1 hn hc
    injection h1 with h1; injection h1 with h1
    subst h1
    refine ⟨?_, blk_frozen h3 i⟩
    rw [blk_cell h3]
    have h7 : (cur.toList.take xs.length)[i]? = (xs.map (Value.int k))[i]? := by rw [h6]
    rw [List.getElem?_take_of_lt hi] at h7
    rw [← Array.getElem?_toList, h7]
    simp [List.getD, hi]
theorem OwnI.store {w : World} {base g n cap : Nat} {e : TypeId} {k : IntKind} {xs : List Int} (h : OwnI w base e k (.slice (some ⟨g, 0, none⟩) n cap) xs) (i : Nat) (x : Int) :
    OwnI (w.setCell ⟨g, i, none⟩ (.int k x)) base e k (.slice (some ⟨g, 0, none⟩) n cap) (xs.set i x) := by
  have hn : xs.length = n := by
    rcases h.form with ⟨h, _⟩ | ⟨_, _, _, h1, _⟩
    · cases h
    · injection h1 with _ h1 _; exact h1.symm
  subst hn
  have hs := (World.ownsRow.stored (show w.ownsRow base e 1 (.slice (some ⟨g, 0, none⟩) xs.length cap) xs.length (xs.map (Value.int k)) from h) i (.int k x)).1
  unfold OwnI
  rw [List.length_set, List.map_set]
  exact hs
theorem OwnI.kept {w w' : World} {base : Nat} {e : TypeId} {k : IntKind} {v : Value} {xs : List Int} (h : OwnI w base e k v xs) (hk : ∀ g, v.ownBlock = some g → w'.heap[g]? = w.heap[g]?) : OwnI w' base e k v xs := by
  obtain ⟨h1, h⟩ := h
  refine ⟨h1, ?_⟩
  rcases h with h | ⟨g, cap, cur, rfl, h2, h3, h4⟩
  · exact .inl h
  · exact .inr ⟨g, cap, cur, rfl, h2, (hk g rfl).trans h3, h4⟩
theorem OwnI.lt {w : World} {base : Nat} {e : TypeId} {k : IntKind} {v : Value} {xs : List Int} (h : OwnI w base e k v xs) {g : Nat} (hg : v.ownBlock = some g) : base ≤ g ∧ g < w.heap.size := World.ownsRow.lt h g hg
theorem OwnI.upd {w w' : World} {S : Nat → Prop} {base : Nat} {e : TypeId} {k : IntKind} {v : Value} {xs : List Int} (h : OwnI w base e k v xs) (hu : Upd S w w') (hS : ∀ g, v.ownBlock = some g → ¬ S g) : OwnI w' base e k v xs :=
  h.kept fun g hg => hu.keep g (h.lt hg).2 (hS g hg)
theorem OwnI.alloc {w : World} {base : Nat} {e : TypeId} {k : IntKind} {v : Value} {xs : List Int} (h : OwnI w base e k v xs) (o : Obj) : OwnI (w.alloc o) base e k v xs := World.ownsRow.alloc h o
theorem OwnI.base {w : World} {base base' : Nat} {e : TypeId} {k : IntKind} {v : Value} {xs : List Int} (h : OwnI w base e k v xs) (hb : ∀ g, v.ownBlock = some g → base' ≤ g) : OwnI w base' e k v xs := by
  obtain ⟨h1, h⟩ := h
  refine ⟨h1, ?_⟩
  rcases h with h | ⟨g, cap, cur, rfl, h2, h3, h4⟩
  · exact .inl h
  · exact .inr ⟨g, cap, cur, rfl, hb g rfl, h3, h4⟩
theorem OwnI.sl {w : World} {base : Nat} {e : TypeId} {k : IntKind} {v : Value} {xs : List Int} (h : OwnI w base e k v xs) : SlI w (fun b => v.ownBlock = some b) k v xs := by
  rcases h.form with ⟨rfl, rfl⟩ | ⟨g, cap, cur, rfl, h2, h3, h4, h5, h6⟩
  · exact SlI.nil _ _ _ _ _
  · refine ⟨_, cap, rfl, h4, .inr ⟨_, rfl, rfl, fun i hi => ?_⟩⟩
    have := (OwnI.at_ h hi).1
    rw [Addr.add_lit, Nat.zero_add]; exact this

theorem OwnI.far {w : World} {base : Nat} {e : TypeId} {k : IntKind} {v : Value} {xs : List Int} (h : OwnI w base e k v xs) {p : Addr} (hp : v.ownBlock ≠ some p.block) (u : Value) : OwnI (w.setCell p u) base e k v xs :=
  h.kept fun g hg => Below.heap_setCell _ _ _ _ (fun e => hp (by rw [hg, e]))
theorem OwnI.take {w : World} {base g n cap : Nat} {e : TypeId} {k : IntKind} {xs : List Int} (h : OwnI w base e k (.slice (some ⟨g, 0, none⟩) n cap) xs) {j : Nat} (hj : j ≤ xs.length) :
    OwnI w base e k (.slice (some ⟨g, 0, none⟩) j cap) (xs.take j) := by
  obtain ⟨h1, h⟩ := h
  rcases h with ⟨h, _⟩ | ⟨g', cap', cur, hv, h2, h3, h4, h5, h6, h7⟩
  · cases h
  · injection hv with hv hn hcap
    injection hv with hv; injection hv with hv
    subst hv hcap
    have hl : (xs.take j).length = j := by simp; omega
    refine ⟨by simp, .inr ⟨g, cap, cur, by rw [hl], h2, h3, by omega, h5, h6, ?_⟩⟩
    rw [hl, Nat.mul_one, List.map_take]
    rw [Nat.mul_one] at h7
    rw [← h7, List.take_take, Nat.min_eq_left hj]
theorem OwnI.made (W : World) (base : Nat) (e : TypeId) (k : IntKind) (m : Nat) (hb : base ≤ W.heap.size) (hm : m ≤ 9223372036854775807) :
    OwnI (W.alloc (.cells (madeCells #[.int k 0] m) e)) base e k (.slice (some ⟨W.heap.size, 0, none⟩) m m) (List.replicate m 0) := by
  have h := World.ownsRow_lit (base := base) (e := e) (size := 1) W (madeCells #[.int k 0] m) m hb (by simpa [maxLen] using hm) (by simp [size_madeCells])
  have hl : (madeCells #[Value.int k 0] m).toList = (List.replicate m (0 : Int)).map (Value.int k) := by
    apply List.ext_getElem
    · simp [madeCells]
    · intro i h1 h2
      simp [madeCells, Nat.mod_one]
  rw [hl] at h
  unfold OwnI
  simpa using h
/-- laid ahead of a walk that makes a row of m whole numbers -/
theorem make_int {P : Program} (t e : TypeId) (k : IntKind) (bytes : Nat) (ht : P.underlying t = some (.slice e)) (hinfo : (P.info? e).map (fun i => (i.zero, i.size, i.bytes)) = some (some (.int k 0), 1, bytes)) (hb0 : 0 < bytes)
    (m : Nat) (hn : m * bytes ≤ 281474976710656) :
    ∀ W : World, (Instr.makeSlice t (.int .i64 (m : Int)) (.int .i64 (m : Int))).run P W = .ok (.slice (some ⟨W.heap.size, 0, none⟩) m m) (W.alloc (.cells (madeCells #[.int k 0] m) e)) := by
  intro W
  have hm : m ≤ 281474976710656 := Nat.le_trans (Nat.le_mul_of_pos_right _ hb0) hn
  exact run_make_row' t e (.int k 0) bytes ht hinfo rfl .i64 .i64 m (by rw [Nat.mul_comm]; exact hn) (by omega) W

/-! ### the end of a call: a value, and what is said of it -/
def Ret (R : Value → World → Prop) (e : Ending) (w' : World) : Prop := ∃ v, e = .returned v ∧ R v w'
theorem Ret.mk {R : Value → World → Prop} {v : Value} {w' : World} (h : R v w') : Ret R (.returned v) w' := ⟨v, rfl, h⟩

/-! ### append of one whole number -/
section
variable {P : Program} {ops : Array Oper} {rest : List Oper} {o : Oper} {a : Act} {Q : Exit → Act → World → Prop}
theorem app_int {W : World} (base : Nat) (hgd : o.guard = none) (s x : Operand) (t e : TypeId) (k : IntKind) (bytes : Nat)
    (ho : o.op = .call { callee := .builtin .append, args := #[s, x], argTypes := #[t, t] })
    (ht : P.underlying t = some (.slice e)) (hinfo : (P.info? e).map (fun i => (i.zero, i.size, i.bytes)) = some (some (.int k 0), 1, bytes)) (hb0 : 0 < bytes)
    (v : Value) (xs : List Int) (y : Int) (HO : OwnI W base e k v xs) (hs : a.eval s = v) {B : Nat} (hx : a.eval x = .slice (some ⟨B, 0, none⟩) 1 1) (hB : W.heap.size = B)
    (hbase : base ≤ W.heap.size) (hl : (xs.length + 1) * bytes ≤ 140737488355328)
    (h : ∀ v1 w1, OwnI w1 base e k v1 (xs ++ [y]) → W.grownBy w1 v.ownBlock → (v1.ownBlock = v.ownBlock ∨ ∃ b, v1.ownBlock = some b ∧ W.heap.size ≤ b) → wpList P ops Q rest (a.put o.dst v1) w1) :
    wpList P ops Q (o :: rest) a (W.alloc (.cells #[.int k y] e)) := by
  subst hB
  obtain ⟨i0, hi, hz0, hz1, hz2⟩ := info_parts hinfo
  have hlen : xs.length + 1 ≤ 140737488355328 := Nat.le_trans (Nat.le_mul_of_pos_right _ hb0) hl
  refine wpList_append_own_at (W.alloc (.cells #[.int k y] e)) hgd s x t ho base e i0 (.int k 0) 1 bytes ht hi hz0 hz1 hz2 rfl (by omega) v xs.length _ hs (HO.alloc _) ⟨W.heap.size, 0, none⟩ 1 1 [.int k y] hx rfl
    (World.news_of_block (cs := #[.int k y]) (t := e) (fr := (0, 0)) (heap_alloc_new W _)) (by simp [Value.oneCell']) (by simp only [maxLen]; omega) hl (by simp; omega) ?_
  intro v1 w1 hown hg _ hat
  refine h v1 w1 (by unfold OwnI; simpa using hown) (World.grownBy.trans (World.grownBy_alloc W _ _) hg) ?_
  rcases hat with hat | hat
  · exact .inl hat
  · exact .inr ⟨_, hat, by simp⟩
/-- append of a slice that is read, nil let in -/
theorem app_row {W : World} (base : Nat) (hgd : o.guard = none) (s x : Operand) (t e : TypeId) (k : IntKind) (bytes : Nat)
    (ho : o.op = .call { callee := .builtin .append, args := #[s, x], argTypes := #[t, t] })
    (ht : P.underlying t = some (.slice e)) (hinfo : (P.info? e).map (fun i => (i.zero, i.size, i.bytes)) = some (some (.int k 0), 1, bytes)) (hb0 : 0 < bytes)
    (v : Value) (xs ys : List Int) (D : Nat → Prop) (u : Value) (HO : OwnI W base e k v xs) (HR : SlI W D k u ys) (hs : a.eval s = v) (hx : a.eval x = u)
    (hbase : base ≤ W.heap.size) (hl : (xs.length + ys.length) * bytes ≤ 140737488355328)
    (h : ∀ v1 w1, OwnI w1 base e k v1 (xs ++ ys) → W.grownBy w1 v.ownBlock → (v1.ownBlock = v.ownBlock ∨ ∃ b, v1.ownBlock = some b ∧ W.heap.size ≤ b) → wpList P ops Q rest (a.put o.dst v1) w1) :
    wpList P ops Q (o :: rest) a W := by
  obtain ⟨i0, hi, hz0, hz1, hz2⟩ := info_parts hinfo
  obtain ⟨A, c, rfl, hmc, HR⟩ := HR
  have hlen : xs.length + ys.length ≤ 140737488355328 := Nat.le_trans (Nat.le_mul_of_pos_right _ hb0) hl
  have hrun : ∃ v1 w1, (Builtin.append_ #[t, t] o.type #[v, .slice A ys.length c]).run P W = .ok v1 w1 ∧ OwnI w1 base e k v1 (xs ++ ys) ∧ W.grownBy w1 v.ownBlock ∧ (v1.ownBlock = v.ownBlock ∨ v1.ownBlock = some W.heap.size) := by
    rcases A with _ | ad
    · have h0 : ys = [] := by
        rcases HR with h0 | ⟨ad, h, _⟩
        · exact h0
        · cases h
      subst h0
      refine ⟨v, W, ?_, by simpa using HO, World.grownBy.refl W _, .inl rfl⟩
      rcases HO.2 with ⟨rfl, hn⟩ | ⟨g, cap, cur, rfl, _, _, hnc, _⟩
      · simp [Builtin.append_, run_underlying ht, sizeOf, typeInfo, hi, Builtin.lenOf, Builtin.firstCells]
      · simp [Builtin.append_, run_underlying ht, sizeOf, typeInfo, hi, Builtin.lenOf, Builtin.firstCells, hnc, storeCells]
    · have hcells : ∀ j u, (ys.map (Value.int k))[j]? = some u → W.cell? (ad.add j) = some u := by
        intro j u hu
        have hj : j < ys.length := by
          rcases Nat.lt_or_ge j ys.length with h | h
          · exact h
          · simp [List.getElem?_eq_none h] at hu
        rcases HR with h0 | ⟨ad', h', _, hc⟩
        · subst h0; simp at hj
        · injection h' with h'
          subst h'
          rw [hc j hj]
          simpa [List.getElem?_eq_getElem hj] using hu
      obtain ⟨v1, w1, hr, h2, h3, _, h5⟩ := run_append_own_at (P := P) W base t o.type e i0 (.int k 0) 1 bytes ht hi hz0 hz1 hz2 rfl (by omega) v xs.length _ HO ad ys.length c (ys.map (Value.int k)) (by simp) hcells
        (by intro u hu; simp only [List.mem_map] at hu; obtain ⟨q, _, rfl⟩ := hu; rfl) (by simp only [maxLen]; omega) hl hbase
      exact ⟨v1, w1, hr, by unfold OwnI; simpa using h2, h3, h5⟩
  obtain ⟨v1, w1, hr, hown, hg, hat⟩ := hrun
  refine wpList_plain hgd fun K hK => ?_
  unfold Oper.wp execOp
  simp only [ho, resolve, invoke, builtin, Sem.run_bind, Sem.run_pure, Result.andThen_ok, List.map_toArray, List.map_cons, List.map_nil, hs, hx, hr]
  refine hK _ _ (h v1 w1 hown hg ?_)
  rcases hat with hat | hat
  · exact .inl hat
  · exact .inr ⟨_, hat, Nat.le_refl _⟩
end

theorem upto_succ {σ : Type} (f : σ → Nat → Int → σ) (s : σ) (xs : List Int) (k : Nat) : upto f s xs (k + 1) = f (upto f s xs k) k (xs.getD k 0) := rfl
/-- an element under a name of its own -/
theorem named {α : Type} (x : α) : ∃ c, Hid (c = x) := ⟨x, rfl⟩
end Go.Proofs.YtoikhkanoffpfaaGreat
