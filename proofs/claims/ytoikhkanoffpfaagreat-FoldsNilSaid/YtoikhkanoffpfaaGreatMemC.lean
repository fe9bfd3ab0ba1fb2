import Derived.Test.YtoikhkanoffpfaaGreatMem
import Derived.Sort.Row
import Derived.Deep.QuietTactic
import Derived.Deep.DrawnRows
namespace Go.Proofs.YtoikhkanoffpfaaGreat
open Go.RowKit Go.Sort
set_option linter.unusedVariables false

/-- a slice's address without a spot of its own -/
def Flat (v : Value) : Prop := ∀ ad n c, v = .slice (some ad) n c → ∃ b off, ad = ⟨b, off, none⟩
theorem Flat.nil (n c : Nat) : Flat (.slice none n c) := by intro ad n c h; cases h
theorem Flat.mk (b off n c : Nat) : Flat (.slice (some ⟨b, off, none⟩) n c) := by intro ad n c h; cases h; exact ⟨_, _, rfl⟩
theorem OwnI.flat {w : World} {base : Nat} {e : TypeId} {k : IntKind} {v : Value} {xs : List Int} (h : OwnI w base e k v xs) : Flat v := by
  rcases h.form with ⟨rfl, _⟩ | ⟨g, cap, cur, rfl, _⟩
  · exact Flat.nil _ _
  · exact Flat.mk _ _ _ _
/-- cells of a flat slice -/
theorem SlI.flat_at {w : World} {D : Nat → Prop} {k : IntKind} {b off n c : Nat} {xs : List Int} (h : SlI w D k (.slice (some ⟨b, off, none⟩) n c) xs) {i : Nat} (hi : i < n) :
    w.cell? ⟨b, off + i, none⟩ = some (.int k (xs.getD i 0)) := by
  obtain ⟨ad, e, hc⟩ := h.at_ hi
  cases e
  rw [Addr.add_lit] at hc
  exact hc
theorem SlI.flat_form {w : World} {D : Nat → Prop} {k : IntKind} {v : Value} {xs : List Int} (h : SlI w D k v xs) (hf : Flat v) :
    (xs = [] ∧ ∃ A c, v = .slice A 0 c) ∨ ∃ b off c, v = .slice (some ⟨b, off, none⟩) xs.length c ∧ xs.length ≤ c ∧ 0 < xs.length ∧ D b := by
  obtain ⟨A, c, rfl, hc, h⟩ := h
  rcases h with h | ⟨ad, rfl, hD, h⟩
  · subst h; exact .inl ⟨rfl, _, _, rfl⟩
  · by_cases hx : xs = []
    · subst hx; exact .inl ⟨rfl, _, _, rfl⟩
    · obtain ⟨b, off, rfl⟩ := hf _ _ _ rfl
      exact .inr ⟨b, off, c, rfl, hc, List.length_pos_iff.2 hx, hD⟩

/-- a stretch of a row is laid anew -/
theorem upd_putRow {α : Type} [Inhabited α] (enc : α → Value) (w : World) (q g off : Nat) (d : Array α) (S : Nat → Prop) (hS : S g) : Upd S w (putRow enc (Sort.ahead w q) g off d) := by
  refine ⟨rfl, rfl, rfl, by simp [putRow, mapBlock, Sort.ahead], fun k hk hn => ?_⟩
  have hne : g ≠ k := fun e => hn (e ▸ hS)
  simp [putRow, mapBlock, Sort.ahead, Array.getElem?_modify, hne]
theorem putCells_toList (k : IntKind) (off : Nat) (d : List Int) (c : Array Value) (h : off + d.length ≤ c.size) :
    (putCells (Value.int k) off d.toArray c).toList = c.toList.take off ++ d.map (Value.int k) ++ c.toList.drop (off + d.length) := by
  apply List.ext_getElem?
  intro i
  simp only [putCells, Array.getElem?_toList, Array.getElem?_mapIdx, List.size_toArray]
  by_cases h1 : i < off
  · rw [List.append_assoc, List.getElem?_append_left (by simp; omega), List.getElem?_take_of_lt h1, Array.getElem?_toList]
    cases c[i]? with
    | none => rfl
    | some y => simp only [Option.map_some]; rw [if_neg (by omega)]
  · by_cases h2 : i < off + d.length
    · rw [List.getElem?_append_left (by simp; omega), List.getElem?_append_right (by simp; omega)]
      have hm : min off c.size = off := by omega
      simp only [List.length_take, Array.length_toList, hm, List.getElem?_map]
      rw [Array.getElem?_eq_getElem (by omega)]
      simp only [Option.map_some]
      rw [if_pos (by omega)]
      rw [List.getElem?_eq_getElem (by omega)]
      simp [getElem!_pos, show i - off < d.length from by omega]
    · rw [List.getElem?_append_right (by simp; omega)]
      have hm : min off c.size = off := by omega
      simp only [List.length_append, List.length_take, Array.length_toList, hm, List.length_map, List.getElem?_drop]
      rw [show off + d.length + (i - (off + d.length)) = i from by omega, Array.getElem?_toList]
      cases c[i]? with
      | none => rfl
      | some y => simp only [Option.map_some]; rw [if_neg (by omega)]
theorem OwnI.putRow {w : World} {base g n cap : Nat} {e : TypeId} {k : IntKind} {xs : List Int} (h : OwnI w base e k (.slice (some ⟨g, 0, none⟩) n cap) xs) (q off : Nat) (d : List Int) (hd : off + d.length ≤ xs.length) :
    OwnI (putRow (Value.int k) (Sort.ahead w q) g off d.toArray) base e k (.slice (some ⟨g, 0, none⟩) n cap) (xs.take off ++ d ++ xs.drop (off + d.length)) := by
  obtain ⟨h1, h⟩ := h
  have hl : (xs.take off ++ d ++ xs.drop (off + d.length)).length = xs.length := by simp; omega
  refine ⟨by simp, ?_⟩
  rcases h with ⟨h, _⟩ | ⟨g', cap', cur, hv, h2, h3, h4, h5, h6, h7⟩
  · cases h
  · injection hv with hv hn hcap
    injection hv with hv; injection hv with hv
    subst hv hcap
    rw [hl]
    refine .inr ⟨g, cap, putCells (Value.int k) off d.toArray cur, by rw [hn], h2, ?_, h4, h5, by simpa [putCells] using h6, ?_⟩
    · simp only [Sort.putRow, mapBlock, Sort.ahead, Array.getElem?_modify, if_pos, h3, Option.map_some, onCells]
    · have hsz : cur.size = cap := by simpa using h6
      rw [Nat.mul_one] at h7 ⊢
      rw [putCells_toList k off d cur (by omega)]
      have hc : cur.toList = xs.map (Value.int k) ++ cur.toList.drop xs.length := by rw [← h7, List.take_append_drop]
      have e1 : cur.toList.take off = (xs.take off).map (Value.int k) := by
        rw [List.map_take, ← h7, List.take_take, Nat.min_eq_left (by omega)]
      have e2 : (cur.toList.drop (off + d.length)).take (xs.length - (off + d.length)) = (xs.drop (off + d.length)).map (Value.int k) := by
        rw [List.map_drop, ← h7, List.drop_take]
      rw [e1]
      rw [List.map_append, List.map_append, ← e2]
      have hlen : ((xs.take off).map (Value.int k) ++ d.map (Value.int k)).length = off + d.length := by simp; omega
      rw [List.take_append, hlen, List.take_of_length_le (by rw [hlen]; omega)]
theorem OwnI.holds {w : World} {base g n cap : Nat} {e : TypeId} {k : IntKind} {xs : List Int} (h : OwnI w base e k (.slice (some ⟨g, 0, none⟩) n cap) xs) (off : Nat) (d : List Int) (hd : ∀ j, j < d.length → off + j < xs.length ∧ d.getD j 0 = xs.getD (off + j) 0) :
    Holds (Value.int k) w g off d.toArray := by
  intro j hj
  have hj' : j < d.length := by simpa using hj
  obtain ⟨h1, h2⟩ := hd j hj'
  obtain ⟨h3, h4⟩ := h.at_ h1
  refine ⟨?_, h4⟩
  rw [h3, ← h2]
  simp [getElem!_pos, hj', List.getD_eq_getElem?_getD]
theorem blk_new (w : World) (o : Obj) {k : Nat} (h : w.heap.size = k) : (w.alloc o).heap[k]? = some o := h ▸ heap_alloc_new w o
theorem quiet_left {P : Program} {f : FuncId} {args : Array Value} {w : World} {n : Nat} {v : Value} (h : Calls P f args (w.drewN n) fun e w' => e = .returned v ∧ w.drewN n = w') :
    Calls P f args (w.drewN n) fun e w'' => e = .returned v ∧ ∃ m, w'' = w.drewN m := h.mono fun _ _ ⟨he, hm⟩ => ⟨he, n, hm.symm⟩
end Go.Proofs.YtoikhkanoffpfaaGreat
