/- The wake. -/
import Derived.Test.YtfhiemficfibgaaGreatDoorA14
namespace Go.Proofs.YtfhiemficfibgaaGreatDoor
open Go.RowKit

set_option maxRecDepth 100000 in
set_option maxHeartbeats 4000000 in
theorem refwords_any (w : World) : Calls Tryz.prog 11 #[] w fun e w' => e = .returned (.slice (some ⟨w.heap.size, 0, none⟩) 58 58) ∧ Below w.heap.size w w' := by
  go_enter Tryz.func11, Tryz.ntmps11
  go_wp2
  refine bodyPost_ret (v := .slice (some ⟨w.heap.size, 0, none⟩) 58 58) (by simp [results, Tryz.results11, go_sem]) rfl ?_
  exact ⟨rfl, (Below.refl _ _).alloc (Nat.le_refl _) _⟩

def wakeT : Bytes := [83, 69, 76, 69, 67, 84, 32, 97, 49, 32, 62, 61, 32, 49, 48, 115]
def wakeL : List Tk := [⟨2, [115, 101, 108, 101, 99, 116], 0, 0⟩, ⟨1, [97, 49], 0, 7⟩, ⟨6, [62, 61], 0, 10⟩, ⟨7, [], 10000, 13⟩]
def okB (x : Except (Nat × Int) (List Tk)) (l : List Tk) : Bool := match x with | .ok l' => decide (l' = l) | .error _ => false
theorem of_okB {x : Except (Nat × Int) (List Tk)} {l : List Tk} (h : okB x l = true) : x = .ok l := by
  cases x with
  | ok l' => simp [okB] at h; rw [h]
  | error _ => simp [okB] at h
def errB (x : Except (Nat × Int) (List Tk)) (p : Nat) (e : Int) : Bool := match x with | .ok _ => false | .error q => decide (q = (p, e))
theorem of_errB {x : Except (Nat × Int) (List Tk)} {p : Nat} {e : Int} (h : errB x p e = true) : x = .error (p, e) := by
  cases x with
  | ok l' => simp [errB] at h
  | error q => simp [errB] at h; rw [h]
theorem wake_lex : LX words wakeT 0 = .ok wakeL := of_okB (by decide +kernel)
theorem wake_bad : LX words [39, 97] 0 = .error (0, 52) := of_errB (by decide +kernel)
theorem wake_good : ∀ t ∈ wakeL, Good t := by
  intro t ht
  simp only [wakeL, List.mem_cons, List.not_mem_nil, or_false] at ht
  rcases ht with rfl | rfl | rfl | rfl
  · exact ⟨by decide, by decide, by decide, by decide +kernel, of_okB (by decide +kernel)⟩
  · exact ⟨by decide, by decide, by decide, by decide +kernel, of_okB (by decide +kernel)⟩
  · exact ⟨by decide, by decide, by decide, by decide +kernel, of_okB (by decide +kernel)⟩
  · exact ⟨by decide, by decide, by decide, by decide +kernel, of_okB (by decide +kernel)⟩
def wakeS : Bytes := [115, 101, 108, 101, 99, 116, 32, 97, 49, 32, 62, 61, 32, 49, 48, 48, 48, 48, 109, 115]
theorem wake_show : Lib.join (wakeL.map shownL) [32] = wakeS := by decide +kernel

theorem Toks.blk {W : World} {k : Nat} {l : List Tk} (h : Blk W k (tkCs l).toArray 28) (hl : l.length ≤ maxLen) : Toks W (.slice (some ⟨k, 0, none⟩) l.length l.length) l :=
  Toks.own (base := 0) ⟨tkCs_length l, .inr ⟨k, l.length, _, rfl, Nat.zero_le _, h.block, Nat.le_refl _, hl, by simp [tkCs_length], by rw [← tkCs_length, List.take_length]⟩⟩

set_option maxRecDepth 100000 in
set_option maxHeartbeats 4000000 in
theorem awake_any (w : World) (hE : Env w) : Calls Tryz.prog 7 #[] w fun e w' => e = .returned (.bool true) ∧ Below w.heap.size w w' := by
  have HE := Lib.hid hE
  clear hE
  go_enter Tryz.func7, Tryz.ntmps7
  go_wp2_with fail
  refine (lex_any _ _ HE.out (by decide)).mono ?_
  rintro e w1 ⟨v, p, err, rfl, hb1, hp⟩
  rw [show (ByteArray.data _).toList = wakeT from rfl, wake_lex] at hp
  obtain ⟨rfl, rfl, hT⟩ := hp
  have HT := Lib.hid hT
  have HB1 := Lib.hid hb1
  clear hT hb1
  go_wp2_with fail
  refine (lex_any _ _ (HE.out.below HB1.out) (by decide)).mono ?_
  rintro e w2 ⟨v2, p2, err2, rfl, hb2, hp⟩
  rw [show (ByteArray.data _).toList = [39, 97] from rfl, wake_bad] at hp
  obtain ⟨rfl, rfl, rfl, _⟩ := hp
  have HT2 := Lib.hid (HT.out.below hb2)
  have HB2 := Lib.hid (HB1.out.trans (hb2.mono HB1.out.size))
  clear hb2 HT HB1
  go_wp2_with fail
  refine (same_any _ _ _ wakeL wakeL (HT2.out.below ((Below.refl _ _).alloc (Nat.le_refl _) _)) (Toks.blk (l := wakeL) (Blk.new w2 (tkCs wakeL).toArray 28) (by decide)) (by decide)).mono ?_
  rintro e w3 ⟨rfl, m, hw3⟩
  have hb3 : Below w2.heap.size w2 w3 := by rw [hw3]; exact below_dn ((Below.refl _ _).alloc (Nat.le_refl _) _) m
  have HT3 := Lib.hid (HT2.out.below hb3)
  have HB3 := Lib.hid (HB2.out.trans (hb3.mono HB2.out.size))
  rw [decide_eq_true (rfl : wakeL = wakeL)]
  clear hb3 hw3 HT2 HB2
  go_wp2_with fail
  refine (show_any _ _ wakeL (HE.out.below HB3.out) HT3.out (by decide) wake_good (by rw [wake_show]; decide) (by decide)).mono ?_
  rintro e w4 ⟨rfl, hb4⟩
  rw [wake_show]
  have HB4 := Lib.hid (HB3.out.trans (hb4.mono HB3.out.size))
  clear hb4 HT3 HB3
  have hstr : (bs wakeS).toList = [115, 101, 108, 101, 99, 116, 32, 97, 49, 32, 62, 61, 32, 49, 48, 48, 48, 48, 109, 115] := bs_list _
  go_wp2_with fail
  refine (words_any _ (HE.out.below HB4.out)).mono ?_
  rintro e w5 ⟨rfl, hw5⟩
  have HB5 := Lib.hid (show Below w.heap.size w w5 by rw [hw5]; exact HB4.out.alloc HB4.out.size _)
  clear hw5 HB4
  go_wp2_with fail
  refine (refwords_any _).mono ?_
  rintro e w6 ⟨rfl, hb6⟩
  have HB6 := Lib.hid (HB5.out.trans (hb6.mono HB5.out.size))
  clear hb6 HB5
  go_wp2
  refine bodyPost_ret (v := .bool true) (by simp [results, Tryz.results7, go_sem]) rfl ?_
  exact ⟨rfl, HB6.out⟩
end Go.Proofs.YtfhiemficfibgaaGreatDoor
