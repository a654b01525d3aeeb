/- What holds while a number is read; the plain side of it. -/
import Derived.Test.YtfhiemficfibgaaGreatDoorA4
import Derived.Test.YtfhiemficfibgaaGreatDoorA6
import Derived.Test.YtfhiemficfibgaaGreatDoorB2
import Derived.Deep.DeepCutAuto
set_option linter.unusedVariables false
namespace Go.Proofs.YtfhiemficfibgaaGreatDoor
open Go.RowKit

/-- Where an error is noted, if there is one. -/
def bOf (a e : Int) : Int := if e = 0 then 0 else a
theorem failB_bOf (a e x : Int) (hx : x ≠ 0) : failB e (bOf a e) a = bOf a (failE e x) := by
  unfold failB bOf failE
  by_cases h : e = 0 <;> simp [h, hx]

theorem fail_at (B : Nat) (s : ByteArray) (at_ : Nat) (m : Nat) (err a x : Int) (w : World) (hr : Rdr w B s at_ m err (bOf a err)) (hx : x ≠ 0) :
    Calls Tryz.prog 19 #[.pointer (some ⟨B, 0, none⟩), .int .i64 x, .int .i64 a] w fun r w' => r = .returned (.tuple #[]) ∧ Rdr w' B s at_ m (failE err x) (bOf a (failE err x)) ∧ w.grownBy w' (some B) := by
  have h := fail_any B s at_ m err (bOf a err) x a w hr
  rw [failB_bOf a err x hx] at h
  exact h

theorem ReadPost.of {B : Nat} {s : ByteArray} {m at_ : Nat} {g : Got} {w w' : World} {e : Ending} (k : Int) (t : ByteArray) (n a : Int) (h : e = .returned (tokV k t n a)) (hk : g.err = 0 → k = g.kind ∧ t = bs g.text ∧ n = g.n ∧ a = at_) (hle : at_ + g.used ≤ s.size)
    (hr : Rdr w' B s (at_ + g.used) m g.err (bOf at_ g.err)) (hg : w.grownBy w' (some B)) : ReadPost B s m at_ g w e w' := by
  refine ⟨⟨k, t, n, a, h, hk⟩, fun he => ?_, fun he => ⟨_, hle, ?_⟩, hg⟩
  · rw [he] at hr
    simpa [bOf] using hr
  · simpa [bOf, he] using hr

theorem numberL_period (r : Bytes) (h : 0 < (unitL (r.drop (run isDigit r))).2) : numberL r = ⟨7, [], atoiV (r.take (run isDigit r)) * (unitL (r.drop (run isDigit r))).1, run isDigit r + (unitL (r.drop (run isDigit r))).2,
    failE (if (decide (1 < run isDigit r) && (lk (r.take (run isDigit r)) 0 == 48)) = true then 50 else 0) (if (atoiOver (r.take (run isDigit r)) || decide (1099511627776 / (unitL (r.drop (run isDigit r))).1 < atoiV (r.take (run isDigit r)))) = true then 51 else 0)⟩ := by
  unfold numberL
  dsimp only
  rw [if_pos h]
theorem numberL_int (r : Bytes) (h : ¬ 0 < (unitL (r.drop (run isDigit r))).2) (h2 : (lk (r.drop (run isDigit r)) 0 == 46 && isDigit (lk (r.drop (run isDigit r)) 1)) = false) : numberL r = ⟨3, [], atoiV (r.take (run isDigit r)), run isDigit r,
    failE (failE (if (decide (1 < run isDigit r) && (lk (r.take (run isDigit r)) 0 == 48)) = true then 50 else 0) (if isLetter (lk (r.drop (run isDigit r)) 0) = true then 50 else 0)) (if atoiOver (r.take (run isDigit r)) = true then 51 else 0)⟩ := by
  unfold numberL
  dsimp only
  rw [if_neg h, if_neg (by rw [h2]; simp)]
theorem numberL_decbad (r : Bytes) (h : ¬ 0 < (unitL (r.drop (run isDigit r))).2) (h2 : (lk (r.drop (run isDigit r)) 0 == 46 && isDigit (lk (r.drop (run isDigit r)) 1)) = true)
    (h3 : (decide (4 < run isDigit (r.drop (run isDigit r + 1))) || isLetter (lk (r.drop (run isDigit r + 1 + run isDigit (r.drop (run isDigit r + 1)))) 0)) = true) : numberL r = ⟨4, [], 0, run isDigit r + 1 + run isDigit (r.drop (run isDigit r + 1)),
    failE (if (decide (1 < run isDigit r) && (lk (r.take (run isDigit r)) 0 == 48)) = true then 50 else 0) 50⟩ := by
  unfold numberL
  dsimp only
  rw [if_neg h, if_pos h2, if_pos h3]
theorem numberL_dec (r : Bytes) (h : ¬ 0 < (unitL (r.drop (run isDigit r))).2) (h2 : (lk (r.drop (run isDigit r)) 0 == 46 && isDigit (lk (r.drop (run isDigit r)) 1)) = true)
    (h3 : (decide (4 < run isDigit (r.drop (run isDigit r + 1))) || isLetter (lk (r.drop (run isDigit r + 1 + run isDigit (r.drop (run isDigit r + 1)))) 0)) = false) (d2 : Bytes) (hd : r.take (run isDigit r) ++ (r.drop (run isDigit r + 1)).take (run isDigit (r.drop (run isDigit r + 1))) ++ Lib.repeatL [48] (4 - run isDigit (r.drop (run isDigit r + 1))) = d2) :
    numberL r = ⟨4, [], atoiV d2, run isDigit r + 1 + run isDigit (r.drop (run isDigit r + 1)),
    failE (if (decide (1 < run isDigit r) && (lk (r.take (run isDigit r)) 0 == 48)) = true then 50 else 0) (if atoiOver d2 = true then 51 else 0)⟩ := by
  unfold numberL
  dsimp only
  rw [if_neg h, if_pos h2, if_neg (by rw [h3]; simp), hd]
/-- What holds of the memory while a number is read. -/
structure NumSt (B : Nat) (s : ByteArray) (m at_ : Nat) (w wx : World) (E : Nat) (e k n : Int) : Prop where
  rdr : Rdr wx B s E m e (bOf at_ e)
  tok : Blk wx (w.heap.size + 1) (tokC k (bs []) n at_) 28
  res : Blk wx w.heap.size (tokC 0 (bs []) 0 0) 28
  grown : w.grownBy wx (some B)
theorem NumSt.gb {B : Nat} {s : ByteArray} {m at_ : Nat} {w wx wy : World} {E : Nat} {e k n : Int} (h : NumSt B s m at_ w wx E e k n) (hB : B < w.heap.size) {E' : Nat} {e' : Int} (hr : Rdr wy B s E' m e' (bOf at_ e')) (hg : wx.grownBy wy (some B)) : NumSt B s m at_ w wy E' e' k n :=
  ⟨hr, h.tok.keep hg (by simp; omega), h.res.keep hg (by simp; omega), gb_trans h.grown hg⟩
theorem NumSt.below {B : Nat} {s : ByteArray} {m at_ : Nat} {w wx wy : World} {E : Nat} {e k n : Int} (h : NumSt B s m at_ w wx E e k n) (hb : Below wx.heap.size wx wy) : NumSt B s m at_ w wy E e k n :=
  ⟨h.rdr.below hb, h.tok.below hb, h.res.below hb, gb_below h.grown hb⟩
theorem NumSt.drewN {B : Nat} {s : ByteArray} {m at_ : Nat} {w wx : World} {E : Nat} {e k n : Int} (h : NumSt B s m at_ w wx E e k n) (j : Nat) : NumSt B s m at_ w (wx.drewN j) E e k n :=
  ⟨h.rdr.drewN j, h.tok.drewN j, h.res.drewN j, gb_drewN h.grown j⟩
/-- The reader goes on. -/
theorem NumSt.at_to {B : Nat} {s : ByteArray} {m at_ : Nat} {w wx : World} {E : Nat} {e k n : Int} (h : NumSt B s m at_ w wx E e k n) (hB : B < w.heap.size) (E' : Nat) : NumSt B s m at_ w (wx.setCell ⟨B, 1, none⟩ (.int .i64 (E' : Int))) E' e k n :=
  ⟨h.rdr.set.1 E', h.tok.other (by omega) _ _, h.res.other (by omega) _ _, gb_row h.grown _ _⟩
theorem NumSt.kind {B : Nat} {s : ByteArray} {m at_ : Nat} {w wx : World} {E : Nat} {e k n : Int} (h : NumSt B s m at_ w wx E e k n) (hB : B < w.heap.size) (k' : Int) : NumSt B s m at_ w (wx.setCell ⟨w.heap.size + 1, 0, none⟩ (.int .i64 k')) E e k' n :=
  ⟨h.rdr.other (by omega) _ _, h.tok.set 0 _, h.res.other (by omega) _ _, gb_new h.grown (by omega) _ _⟩
theorem NumSt.num {B : Nat} {s : ByteArray} {m at_ : Nat} {w wx : World} {E : Nat} {e k n : Int} (h : NumSt B s m at_ w wx E e k n) (hB : B < w.heap.size) (n' : Int) : NumSt B s m at_ w (wx.setCell ⟨w.heap.size + 1, 2, none⟩ (.int .i64 n')) E e k n' :=
  ⟨h.rdr.other (by omega) _ _, h.tok.set 2 _, h.res.other (by omega) _ _, gb_new h.grown (by omega) _ _⟩
/-- The result's cells are written. -/
theorem NumSt.out {B : Nat} {s : ByteArray} {m at_ : Nat} {w wx : World} {E : Nat} {e k n : Int} (h : NumSt B s m at_ w wx E e k n) (hB : B < w.heap.size) (v0 v1 v2 v3 : Value) :
    Rdr ((((wx.setCell ⟨w.heap.size, 0, none⟩ v0).setCell ⟨w.heap.size, 1, none⟩ v1).setCell ⟨w.heap.size, 2, none⟩ v2).setCell ⟨w.heap.size, 3, none⟩ v3) B s E m e (bOf at_ e) ∧
    w.grownBy ((((wx.setCell ⟨w.heap.size, 0, none⟩ v0).setCell ⟨w.heap.size, 1, none⟩ v1).setCell ⟨w.heap.size, 2, none⟩ v2).setCell ⟨w.heap.size, 3, none⟩ v3) (some B) :=
  ⟨(((h.rdr.other (by omega) _ _).other (by omega) _ _).other (by omega) _ _).other (by omega) _ _, gb_new (gb_new (gb_new (gb_new h.grown (by omega) _ _) (by omega) _ _) (by omega) _ _) (by omega) _ _⟩

end Go.Proofs.YtfhiemficfibgaaGreatDoor
