/- Small words of memory: a block of plain cells; what grows and what stays. -/
import Derived.Below
import Derived.WalkKit
import Derived.WalkSpells
import Derived.WalkLawsBesides
import Derived.Deep.QuietTactic
import Derived.BigQuiet
import Derived.Lib.Hide
import Derived.Deep.LoopGhost
set_option linter.unusedVariables false
namespace Go.Proofs.YtfhiemficfibgaaGreatDoor
open Go.RowKit

/-- A block of plain cells. -/
structure Blk (w : World) (k : Nat) (cs : Array Value) (T : TypeId) : Prop where
  block : w.heap[k]? = some (.cells cs T (0, 0))
variable {w w1 w2 : World} {k : Nat} {cs : Array Value} {T : TypeId}
theorem Blk.lt (h : Blk w k cs T) : k < w.heap.size := (Array.getElem?_eq_some_iff.1 h.block).1
theorem Blk.cell (h : Blk w k cs T) (i : Nat) {v : Value} (hv : cs[i]? = some v) : w.cell? ⟨k, i, none⟩ = some v := by simp [World.cell?, h.block, hv]
theorem Blk.free (h : Blk w k cs T) (i : Nat) : w.frozen? ⟨k, i, none⟩ = false := by simp [World.frozen?, h.block]
theorem Blk.keep (h : Blk w k cs T) {r : Option Nat} (hg : w.grownBy w1 r) (hr : r ≠ some k) : Blk w1 k cs T := ⟨by rw [hg.block k h.lt (fun e => hr e.symm)]; exact h.block⟩
theorem Blk.below (h : Blk w k cs T) (hb : Below w.heap.size w w1) : Blk w1 k cs T := ⟨by rw [hb.block k h.lt]; exact h.block⟩
theorem Blk.drewN (h : Blk w k cs T) (n : Nat) : Blk (w.drewN n) k cs T := ⟨h.block⟩
theorem Blk.drew (h : Blk w k cs T) : Blk w.drew k cs T := ⟨h.block⟩
theorem Blk.alloc (h : Blk w k cs T) (o : Obj) : Blk (w.alloc o) k cs T := ⟨by
  show (w.heap.push o)[k]? = _
  rw [Array.getElem?_push, if_neg (Nat.ne_of_lt h.lt)]
  exact h.block⟩
theorem Blk.set (h : Blk w k cs T) (i : Nat) (v : Value) : Blk (w.setCell ⟨k, i, none⟩ v) k (cs.setIfInBounds i v) T := ⟨by
  have hl := h.lt
  simp [World.setCell, Array.getElem?_modify, h.block]⟩
theorem Blk.other (h : Blk w k cs T) {j : Nat} (hj : j ≠ k) (i : Nat) (v : Value) : Blk (w.setCell ⟨j, i, none⟩ v) k cs T := ⟨by rw [Below.heap_setCell w ⟨j, i, none⟩ v k (fun e => hj e.symm)]; exact h.block⟩
theorem Blk.new (w : World) (cs : Array Value) (T : TypeId) : Blk (w.alloc (.cells cs T)) w.heap.size cs T := ⟨heap_alloc_new w _⟩
theorem Blk.new2 (w : World) (o : Obj) (cs : Array Value) (T : TypeId) : Blk ((w.alloc o).alloc (.cells cs T)) (w.heap.size + 1) cs T := ⟨heap_alloc2_new w _ _⟩

theorem size_alloc (w : World) (o : Obj) : (w.alloc o).heap.size = w.heap.size + 1 := by show (w.heap.push o).size = _; simp
theorem size_set (w : World) (a : Addr) (v : Value) : (w.setCell a v).heap.size = w.heap.size := by simp [World.setCell]
theorem size_dn (w : World) (n : Nat) : (w.drewN n).heap.size = w.heap.size := rfl

variable {r : Option Nat}
theorem gb_refl (w : World) (r : Option Nat) : w.grownBy w r := World.grownBy.refl _ _
theorem gb_trans (h : w.grownBy w1 r) (h' : w1.grownBy w2 r) : w.grownBy w2 r := h.trans h'
theorem gb_alloc (h : w.grownBy w1 r) (o : Obj) : w.grownBy (w1.alloc o) r := h.trans (World.grownBy_alloc w1 o r)
theorem gb_drewN (h : w.grownBy w1 r) (n : Nat) : w.grownBy (w1.drewN n) r := ⟨h.os, h.tape, h.output, h.size, h.block⟩
theorem gb_drew (h : w.grownBy w1 r) : w.grownBy w1.drew r := ⟨h.os, h.tape, h.output, h.size, h.block⟩
theorem gb_row (h : w.grownBy w1 (some k)) (i : Nat) (v : Value) : w.grownBy (w1.setCell ⟨k, i, none⟩ v) (some k) :=
  h.trans ⟨rfl, rfl, rfl, by simp [World.setCell], fun j _ hj => Below.heap_setCell w1 _ v j (fun e => hj (by rw [e]))⟩
theorem gb_new (h : w.grownBy w1 r) (hk : w.heap.size ≤ k) (i : Nat) (v : Value) : w.grownBy (w1.setCell ⟨k, i, none⟩ v) r :=
  ⟨h.os, h.tape, h.output, by rw [size_set]; exact h.size, fun j hj hr => by
    rw [Below.heap_setCell w1 ⟨k, i, none⟩ v j (fun e => by simp at e; omega)]
    exact h.block j hj hr⟩
theorem gb_then (h : w.grownBy w1 r) (h' : w1.grownBy w2 (some k)) (hk : w.heap.size ≤ k) : w.grownBy w2 r :=
  ⟨by rw [h'.os, h.os], by rw [h'.tape, h.tape], by rw [h'.output, h.output], Nat.le_trans h.size h'.size, fun j hj hr => by
    rw [h'.block j (Nat.lt_of_lt_of_le hj h.size) (fun e => by injection e with e; omega)]
    exact h.block j hj hr⟩
theorem gb_below (h : w.grownBy w1 r) (h' : Below w1.heap.size w1 w2) : w.grownBy w2 r :=
  ⟨by rw [h'.os, h.os], by rw [h'.tape, h.tape], by rw [h'.output, h.output], Nat.le_trans h.size h'.size, fun j hj hr => by
    rw [h'.block j (Nat.lt_of_lt_of_le hj h.size)]
    exact h.block j hj hr⟩
theorem below_gb {B : Nat} (h : Below B w w1) (h' : w1.grownBy w2 r) (hB : B ≤ w1.heap.size) (hr : ∀ j, r = some j → B ≤ j) : Below B w w2 := h.grown h' hB hr
end Go.Proofs.YtfhiemficfibgaaGreatDoor
