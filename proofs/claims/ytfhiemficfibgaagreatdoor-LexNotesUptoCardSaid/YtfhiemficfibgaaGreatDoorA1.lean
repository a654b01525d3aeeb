/- The readers' small functions: what a byte is, what is looked at, an error that is noted. -/
import Derived.Test.YtfhiemficfibgaaGreatDoorProg
import Derived.Test.YtfhiemficfibgaaGreatDoorA0
import Derived.Test.YtfhiemficfibgaaGreatDoorB1
import Derived.WalkKit
import Derived.WalkSpells
import Derived.WalkLawsBesides
import Derived.Deep.QuietTactic
import Derived.BigQuiet
import Derived.Lib.Hide
import Derived.Deep.LoopGhost
namespace Go.Proofs.YtfhiemficfibgaaGreatDoor
set_option linter.unusedVariables false
open Go.RowKit

theorem ret_bool {a b : Bool} (h : a = b) : Ending.returned (.bool a) = .returned (.bool b) := by rw [h]

set_option maxHeartbeats 400000 in
theorem digit_any (c : Int) (w : World) :
    Calls Tryz.prog 22 #[.int .u8 c] w fun e w' => e = .returned (.bool (isDigit c)) ∧ w = w' := by
  by_cases h1 : 48 ≤ c <;> by_cases h2 : c ≤ 57
  all_goals
    go_enter Tryz.func22, Tryz.ntmps22
    go_wp2
    go_ret
    exact ⟨by simp [isDigit, h1, h2], rfl⟩

set_option maxHeartbeats 400000 in
theorem letter_any (c : Int) (w : World) :
    Calls Tryz.prog 20 #[.int .u8 c] w fun e w' => e = .returned (.bool (isLetter c)) ∧ w = w' := by
  rcases (by omega : (97 ≤ c ∧ c ≤ 122) ∨ 122 < c ∨ (90 < c ∧ c < 97) ∨ (65 ≤ c ∧ c ≤ 90) ∨ c < 65) with ⟨h1, h2⟩ | h1 | ⟨h1, h2⟩ | ⟨h1, h2⟩ | h1
  all_goals
    go_enter Tryz.func20, Tryz.ntmps20
    go_wp2
    go_ret
    refine ⟨ret_bool ?_, rfl⟩
    rw [Bool.eq_iff_iff]
    simp [isLetter]
    try omega

set_option maxHeartbeats 400000 in
theorem notLine_any (c : Int) (w : World) :
    Calls Tryz.prog 17 #[.int .u8 c] w fun e w' => e = .returned (.bool (notLine c)) ∧ w = w' := by
  go_enter Tryz.func17, Tryz.ntmps17
  go_wp2
  go_ret
  refine ⟨?_, rfl⟩
  simp [notLine]

set_option maxHeartbeats 400000 in
theorem wordy_any (c : Int) (w : World) :
    Calls Tryz.prog 33 #[.int .u8 c] w fun e w' => e = .returned (.bool (isWordy c)) ∧ w = w' := by
  cases h : isLetter c
  all_goals
    go_enter Tryz.func33, Tryz.ntmps33
    go_wp2_with (first | (go_at_call 20; refine (letter_any _ _).mono ?_; rintro e w' ⟨rfl, rfl⟩) | (go_at_call 22; refine (digit_any _ _).mono ?_; rintro e w' ⟨rfl, rfl⟩))
    go_ret
    exact ⟨by simp [isWordy, h], rfl⟩

/-- A call that leaves the world as it is, inside a region that draws its order. -/
theorem quiet_eq {P : Program} {f : FuncId} {args : Array Value} {w : World} {n : Nat} {v : Value}
    (h : Calls P f args (w.drewN n) fun e w' => e = .returned v ∧ w.drewN n = w') : Calls P f args (w.drewN n) fun e w'' => e = .returned v ∧ ∃ m, w'' = w.drewN m :=
  h.mono fun _ _ ⟨he, hm⟩ => ⟨he, n, hm.symm⟩

/-- The reader's block. -/
def rdrCells (s : ByteArray) (at_ : Nat) (m : Nat) (err bad : Int) : Array Value := #[.string s, .int .i64 at_, .map (some m), .int .i64 err, .int .i64 bad]
def Rdr (w : World) (B : Nat) (s : ByteArray) (at_ : Nat) (m : Nat) (err bad : Int) : Prop := Blk w B (rdrCells s at_ m err bad) 40

theorem Rdr.cells {w : World} {B : Nat} {s : ByteArray} {at_ : Nat} {m : Nat} {err bad : Int} (h : Rdr w B s at_ m err bad) :
    w.cell? ⟨B, 0, none⟩ = some (.string s) ∧ w.cell? ⟨B, 1, none⟩ = some (.int .i64 at_) ∧ w.cell? ⟨B, 2, none⟩ = some (.map (some m)) ∧ w.cell? ⟨B, 3, none⟩ = some (.int .i64 err) ∧ w.cell? ⟨B, 4, none⟩ = some (.int .i64 bad) ∧
    w.frozen? ⟨B, 1, none⟩ = false ∧ w.frozen? ⟨B, 3, none⟩ = false ∧ w.frozen? ⟨B, 4, none⟩ = false :=
  ⟨h.cell 0 rfl, h.cell 1 rfl, h.cell 2 rfl, h.cell 3 rfl, h.cell 4 rfl, h.free 1, h.free 3, h.free 4⟩

set_option maxHeartbeats 400000 in
theorem look_any (B : Nat) (s : ByteArray) (at_ : Nat) (m : Nat) (err bad : Int) (k : Nat) (w : World) (hr : Rdr w B s at_ m err bad) (hs : s.size ≤ 2000000) (hat : at_ ≤ s.size) (hk : k ≤ 10) :
    Calls Tryz.prog 37 #[.pointer (some ⟨B, 0, none⟩), .int .i64 k] w fun e w' => e = .returned (.int .u8 (byteAt s (at_ + k))) ∧ ∃ n, w' = w.drewN n := by
  obtain ⟨c0, c1, -, -, -, -, -, -⟩ := hr.cells
  clear hr
  have q1 : IntKind.i64.wrap ((at_ : Int) + k) = (at_ : Int) + k := IntWalk.i64_in _ (by omega)
  by_cases h : at_ + k < s.size
  · have e1 : (0 : Int) ≤ (at_ : Int) + k := by omega
    have e2 : ((at_ : Int) + k).toNat = at_ + k := by omega
    have e3 : ((at_ : Int) + k) < s.size := by omega
    have hb := Lib.hid (byteAt_in s (at_ + k) h)
    go_enter Tryz.func37, Tryz.ntmps37
    go_wp2
    go_quiet (fail)
    go_wp2
    go_quiet (fail)
    go_wp2
    go_ret
    refine ⟨?_, _, World.drewN_drewN ..⟩
    rw [← hb.out]
    rfl
  · have e3 : decide (((at_ : Int) + k) < s.size) = false := by simp; omega
    have hb := Lib.hid (byteAt_out s (at_ + k) (by omega))
    go_enter Tryz.func37, Tryz.ntmps37
    go_wp2
    go_quiet (fail)
    go_wp2
    go_ret
    refine ⟨?_, _, rfl⟩
    rw [hb.out]
    rfl

/-- One of the reader's numbers is written. -/
theorem Rdr.set {w : World} {B : Nat} {s : ByteArray} {at_ : Nat} {m : Nat} {err bad : Int} (h : Rdr w B s at_ m err bad) :
    (∀ a : Nat, Rdr (w.setCell ⟨B, 1, none⟩ (.int .i64 (a : Int))) B s a m err bad) ∧ (∀ x, Rdr (w.setCell ⟨B, 3, none⟩ (.int .i64 x)) B s at_ m x bad) ∧ (∀ x, Rdr (w.setCell ⟨B, 4, none⟩ (.int .i64 x)) B s at_ m err x) :=
  ⟨fun a => Blk.set h 1 _, fun x => Blk.set h 3 _, fun x => Blk.set h 4 _⟩
theorem Rdr.lt {w : World} {B : Nat} {s : ByteArray} {at_ : Nat} {m : Nat} {err bad : Int} (h : Rdr w B s at_ m err bad) : B < w.heap.size := Blk.lt h
theorem Rdr.drewN {w : World} {B : Nat} {s : ByteArray} {at_ : Nat} {m : Nat} {err bad : Int} (h : Rdr w B s at_ m err bad) (n : Nat) : Rdr (w.drewN n) B s at_ m err bad := Blk.drewN h n
theorem Rdr.alloc {w : World} {B : Nat} {s : ByteArray} {at_ : Nat} {m : Nat} {err bad : Int} (h : Rdr w B s at_ m err bad) (o : Obj) : Rdr (w.alloc o) B s at_ m err bad := Blk.alloc h o
theorem Rdr.below {w w1 : World} {B : Nat} {s : ByteArray} {at_ : Nat} {m : Nat} {err bad : Int} (h : Rdr w B s at_ m err bad) (hb : Below w.heap.size w w1) : Rdr w1 B s at_ m err bad := Blk.below h hb
theorem Rdr.other {w : World} {B : Nat} {s : ByteArray} {at_ : Nat} {m : Nat} {err bad : Int} (h : Rdr w B s at_ m err bad) {j : Nat} (hj : j ≠ B) (i : Nat) (v : Value) : Rdr (w.setCell ⟨j, i, none⟩ v) B s at_ m err bad := Blk.other h hj i v

set_option maxHeartbeats 400000 in
/-- An error is noted: the first one stays. -/
theorem fail_any (B : Nat) (s : ByteArray) (at_ : Nat) (m : Nat) (err bad e p : Int) (w : World) (hr : Rdr w B s at_ m err bad) :
    Calls Tryz.prog 19 #[.pointer (some ⟨B, 0, none⟩), .int .i64 e, .int .i64 p] w fun r w' => r = .returned (.tuple #[]) ∧ Rdr w' B s at_ m (failE err e) (failB err bad p) ∧ w.grownBy w' (some B) := by
  obtain ⟨c0, c1, c2, c3, c4, f1, f3, f4⟩ := hr.cells
  have HR := Lib.hid hr
  clear hr
  by_cases he : err = 0
  · subst he
    go_enter Tryz.func19, Tryz.ntmps19
    go_wp2
    go_end0
    exact ⟨rfl, (HR.out.set.2.1 _).set.2.2 _, gb_row (gb_row (gb_refl _ _) _ _) _ _⟩
  · have hb : (err == 0) = false := by simpa using he
    have he' : failE err e = err ∧ failB err bad p = bad := by simp [failE, failB, he]
    obtain ⟨h1, h2⟩ := he'
    rw [h1, h2]
    clear h1 h2 he
    go_enter Tryz.func19, Tryz.ntmps19
    go_wp2
    go_end0
    exact ⟨rfl, HR.out, World.grownBy.refl _ _⟩

/-- A function value that tells of each byte whether it is so, and does nothing else. -/
structure Tells (f : FuncId) (p : Int → Bool) : Prop where
  enters : ∀ (args : Array Value) (w : World), Sem.run Tryz.prog (callFunc f args) w = .ok (.enter f args) w
  calls : ∀ (c : Int) (w : World), 0 ≤ c → c ≤ 255 → Calls Tryz.prog f #[.int .u8 c] w fun e w' => e = .returned (.bool (p c)) ∧ w = w'
theorem tells_digit : Tells 22 isDigit := ⟨fun _ _ => by kernel_rfl, fun c w _ _ => digit_any c w⟩
theorem tells_wordy : Tells 33 isWordy := ⟨fun _ _ => by kernel_rfl, fun c w _ _ => wordy_any c w⟩
theorem tells_notLine : Tells 17 notLine := ⟨fun _ _ => by kernel_rfl, fun c w _ _ => notLine_any c w⟩

set_option maxHeartbeats 400000 in
theorem while_core (f : FuncId) (p : Int → Bool) (hp : Tells f p) (B : Nat) (s : ByteArray) (at_ : Nat) (m : Nat) (err bad : Int) (w : World) (hr : Rdr w B s at_ m err bad) (hs : s.size ≤ 2000000) (hat : at_ ≤ s.size)
    (E : Nat) (h1 : at_ ≤ E) (h2 : E ≤ s.size) (h3 : Hid (∀ j, at_ ≤ j → j < E → p (byteAt s j) = true)) (h4 : Hid (E < s.size → p (byteAt s E) = false)) :
    Calls Tryz.prog 16 #[.pointer (some ⟨B, 0, none⟩), .func (.func f) #[] #[]] w fun e w' => e = .returned (.string (s.extract at_ E)) ∧ Rdr w' B s E m err bad ∧ w.grownBy w' (some B) := by
  obtain ⟨c0, c1, c2, c3, c4, f1, f3, f4⟩ := hr.cells
  have hB := hr.lt
  have HR := Lib.hid hr
  have hen := hp.enters
  clear hr
  go_enter Tryz.func16, Tryz.ntmps16
  go_wp2
  go_loopg [] (E - at_) (fun k wr => ∃ j : Nat, at_ ≤ j ∧ j + k = E ∧ Rdr wr B s j m err bad ∧ w.grownBy wr (some B))
  case atStart => exact ⟨at_, Nat.le_refl _, by omega, HR.out, World.grownBy.refl _ _⟩
  case round =>
    obtain ⟨j, hj, hk, hr, hg⟩ := hrel
    clear HR c0 c1 c2 c3 c4 f1 f3 f4
    obtain ⟨c0, c1, c2, c3, c4, f1, f3, f4⟩ := hr.cells
    have HR := Lib.hid hr
    have HG := Lib.hid hg
    have hB := hr.lt
    have HK := Lib.hid hk
    clear hr hg
    by_cases hlt : j < E
    · have hsz : j < s.size := by omega
      have hbi := byteAt_in s j hsz
      have hbr := byteAt_range s j
      have q1 : IntKind.i64.wrap ((j : Int) + 1) = (j : Int) + 1 := IntWalk.i64_in _ (by omega)
      have hd : decide ((j : Int) < s.size) = true := by simp; omega
      have HP : ∀ W : World, Calls Tryz.prog f #[.int .u8 (s[j].toNat : Int)] W fun e w' => e = .returned (.bool true) ∧ W = w' := by
        intro W
        rw [hbi]
        refine (hp.calls _ _ hbr.1 hbr.2).mono ?_
        rintro e w' ⟨rfl, h⟩
        exact ⟨by rw [h3.out j hj hlt], h⟩
      clear hk hbi hbr
      have HP' := Lib.hid HP
      clear HP
      go_wp2
      go_quiet (exact quiet_eq (HP'.out _))
      go_wp2
      go_roundg (gk - 1)
      case measure => have := HK.out; omega
      case rel =>
        refine ⟨j + 1, by omega, by have := HK.out; omega, ?_, ?_⟩
        · exact (HR.out.set.1 (j + 1)).drewN _
        · exact gb_drewN (gb_row HG.out _ _) _
    · obtain rfl : j = E := by omega
      clear hk HK hlt
      have e5 : ((j : Nat) : Int).toNat = j := by omega
      have e6 : ((at_ : Nat) : Int).toNat = at_ := by omega
      by_cases hsz : j < s.size
      · have hbi := byteAt_in s j hsz
        have hbr := byteAt_range s j
        have hd : decide ((j : Int) < s.size) = true := by simp; omega
        have HP : ∀ W : World, Calls Tryz.prog f #[.int .u8 (s[j].toNat : Int)] W fun e w' => e = .returned (.bool false) ∧ W = w' := by
          intro W
          rw [hbi]
          refine (hp.calls _ _ hbr.1 hbr.2).mono ?_
          rintro e w' ⟨rfl, h⟩
          exact ⟨by rw [h4.out hsz], h⟩
        clear hbi hbr
        have HP' := Lib.hid HP
        clear HP
        go_wp2
        go_quiet (exact quiet_eq (HP'.out _))
        go_wp2
        go_quiet (fail)
        go_wp2
        go_ret
        exact ⟨rfl, ((HR.out.drewN _).drewN _), gb_drewN (gb_drewN HG.out _) _⟩
      · have hd : decide ((j : Int) < s.size) = false := by simp; omega
        go_wp2
        go_quiet (fail)
        go_wp2
        go_quiet (fail)
        go_wp2
        go_ret
        exact ⟨rfl, ((HR.out.drewN _).drewN _), gb_drewN (gb_drewN HG.out _) _⟩

/-- The bytes that are so are passed over. -/
theorem while_any (f : FuncId) (p : Int → Bool) (hp : Tells f p) (B : Nat) (s : ByteArray) (at_ : Nat) (m : Nat) (err bad : Int) (w : World) (hr : Rdr w B s at_ m err bad) (hs : s.size ≤ 2000000) (hat : at_ ≤ s.size) :
    Calls Tryz.prog 16 #[.pointer (some ⟨B, 0, none⟩), .func (.func f) #[] #[]] w fun e w' => e = .returned (.string (s.extract at_ (runTo p s at_))) ∧ Rdr w' B s (runTo p s at_) m err bad ∧ w.grownBy w' (some B) :=
  while_core f p hp B s at_ m err bad w hr hs hat _ (runTo_ge ..) (runTo_le p s at_ hat) (Lib.hid fun j h h' => runTo_in p s at_ j h h') (Lib.hid fun h => runTo_end p s at_ hat h)

end Go.Proofs.YtfhiemficfibgaaGreatDoor
