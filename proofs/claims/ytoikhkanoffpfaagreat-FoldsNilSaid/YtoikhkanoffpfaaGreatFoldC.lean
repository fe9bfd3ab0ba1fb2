import Derived.Test.YtoikhkanoffpfaaGreatFoldB
import Derived.Deep.RegionWith
import Derived.Shelf.Abstract
import Derived.Shelf.RegionOpen
namespace Go.Proofs.YtoikhkanoffpfaaGreat
open Go.RowKit Go.Shelf
set_option linter.unusedVariables false
set_option linter.unusedSimpArgs false

/-- a paper lies at b -/
structure PaperAt (w : World) (b : Nat) (v u z : Value) (most : Int) : Prop where
  blk : w.heap[b]? = some (.cells #[v, u, z, .int .i64 most] 77 (0, 0))
theorem PaperAt.upd {w w' : World} {b : Nat} {v u z : Value} {most : Int} {S : Nat → Prop} (h : PaperAt w b v u z most) (hu : Upd S w w') (hb : ¬ S b) : PaperAt w' b v u z most := ⟨hu.heap h.blk hb⟩
theorem PaperAt.c0 {w : World} {b : Nat} {v u z : Value} {most : Int} (h : PaperAt w b v u z most) : w.cell? ⟨b, 0, none⟩ = some v := blk_cell h.blk 0
theorem PaperAt.c1 {w : World} {b : Nat} {v u z : Value} {most : Int} (h : PaperAt w b v u z most) : w.cell? ⟨b, 1, none⟩ = some u := blk_cell h.blk 1
theorem PaperAt.c2 {w : World} {b : Nat} {v u z : Value} {most : Int} (h : PaperAt w b v u z most) : w.cell? ⟨b, 2, none⟩ = some z := blk_cell h.blk 2
theorem PaperAt.c3 {w : World} {b : Nat} {v u z : Value} {most : Int} (h : PaperAt w b v u z most) : w.cell? ⟨b, 3, none⟩ = some (.int .i64 most) := blk_cell h.blk 3

/-- what a paper's slices hold -/
structure Paper (w : World) (b : Nat) (v u z : Value) (most : Int) (xs cl ws : List Int) (D E G : Nat → Prop) : Prop where
  at_ : PaperAt w b v u z most
  xs_ : SlI w D .u8 v xs
  cl_ : SlI w E .i64 u cl
  ws_ : SlI w G .i64 z ws
theorem Paper.upd {w w' : World} {b : Nat} {v u z : Value} {most : Int} {xs cl ws : List Int} {D E G S : Nat → Prop} (h : Paper w b v u z most xs cl ws D E G) (hu : Upd S w w') (hb : ¬ S b)
    (hD : ∀ k, D k → ¬ S k) (hE : ∀ k, E k → ¬ S k) (hG : ∀ k, G k → ¬ S k) : Paper w' b v u z most xs cl ws D E G :=
  ⟨h.at_.upd hu hb, h.xs_.upd hu (fun k hk _ => hD k hk), h.cl_.upd hu (fun k hk _ => hE k hk), h.ws_.upd hu (fun k hk _ => hG k hk)⟩
/-- the plain side: clusters lie within the text, each has its width -/
structure PaperOk (xs cl ws : List Int) : Prop where
  n : xs.length ≤ 1048576
  le : cl.length ≤ xs.length
  wl : ws.length = cl.length
  r : ∀ i, i < cl.length → 0 ≤ cl.getD i 0 ∧ cl.getD i 0 < xs.length
  w : ∀ i, i < ws.length → 0 ≤ ws.getD i 0 ∧ ws.getD i 0 ≤ 1099511627776

/-- is the cluster blank? -/
def kBlank (xs cl : List Int) (k : Nat) : Bool := fblankB (xs.getD (cl.getD k 0).toNat 0)
def loneOf (xs cl ws : List Int) (k : Nat) : Int × Int := ((k : Int) + 1, if kBlank xs cl k = true then 0 else ws.getD k 0)

set_option maxRecDepth 10000 in
set_option maxHeartbeats 2000000 in
theorem paper_lone (b : Nat) (v u z : Value) (most : Int) (xs cl ws : List Int) (D E G : Nat → Prop) (k : Nat) (w : World) (h : Paper w b v u z most xs cl ws D E G) (ok : PaperOk xs cl ws) (hk : k < cl.length) :
    Calls Tryz.prog 74 #[.pointer (some ⟨b, 0, none⟩), .int .i64 k] w (Ret fun r w' => r = .tuple #[.int .i64 (loneOf xs cl ws k).1, .int .i64 (loneOf xs cl ws k).2] ∧ Upd No w w') := by
  obtain ⟨hat, hxs, hcl, hws⟩ := h
  obtain ⟨A, c, rfl, hc⟩ := hxs.form
  obtain ⟨A2, c2, rfl, hc2⟩ := hcl.form
  obtain ⟨A3, c3, rfl, hc3⟩ := hws.form
  have h0 := hat.c0
  have h1 := hat.c1
  have h2 := hat.c2
  have hn := ok.n
  have hle := ok.le
  have hr := ok.r k hk
  rw [ok.wl] at h2 hws
  obtain ⟨Y, hY⟩ : ∃ Y : Nat, cl.getD k 0 = Y := ⟨(cl.getD k 0).toNat, by omega⟩
  have hYl : Y < xs.length := by omega
  obtain ⟨ad, rfl, hy⟩ := hxs.at_ hYl
  obtain ⟨ad2, rfl, hy2⟩ := hcl.at_ hk
  obtain ⟨ad3, rfl, hy3⟩ := hws.at_ hk
  rw [hY] at hy2
  have hb : kBlank xs cl k = fblankB (xs.getD Y 0) := by simp only [kBlank, hY, Int.toNat_natCast]
  obtain ⟨x, hx⟩ := named (xs.getD Y 0)
  rw [← hx.out] at hb hy
  obtain ⟨q, hq⟩ := named (ws.getD k 0)
  have hlo : Hid (loneOf xs cl ws k = ((k : Int) + 1, if fblankB x = true then 0 else q)) := by unfold Hid; rw [loneOf, hb, ← hq.out]
  rw [← hq.out] at hy3
  have hblk := fun w => folds_blank x w
  obtain ⟨bo, hbo⟩ := named (fblankB x)
  rw [← hbo.out] at hblk hlo
  rw [hlo.out]
  clear hxs hcl hws hat hr hb hY ok
  have w1 : IntKind.i64.wrap ((k : Int) + 1) = (k : Int) + 1 := IntWalk.i64_in _ (by omega)
  have w2 : 0 ≤ (k : Int) := by omega
  have w4 : (k : Int) < cl.length := by omega
  have w5 : (Y : Int) < xs.length := by omega
  go_enter Tryz.func74, Tryz.ntmps74
  go_wp2
  go_region_with (go_at_call 72; refine (hblk _).mono ?_; rintro e w' ⟨rfl, rfl⟩)
  all_goals
    cases bo
    · go_wp2
      go_region
      all_goals go_wp2
      all_goals go_ret2
      all_goals exact Ret.mk ⟨by simp, ((Upd.refl No w).drew).drew⟩
    · go_wp2
      go_ret2
      exact Ret.mk ⟨by simp, (Upd.refl No w).drew⟩
end Go.Proofs.YtoikhkanoffpfaaGreat
