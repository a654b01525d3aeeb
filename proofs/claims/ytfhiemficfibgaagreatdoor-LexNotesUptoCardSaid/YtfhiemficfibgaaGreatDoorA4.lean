/- A period's unit. -/
import Derived.Test.YtfhiemficfibgaaGreatDoorA3
set_option linter.unusedVariables false
namespace Go.Proofs.YtfhiemficfibgaaGreatDoor
open Go.RowKit

def unitCells : Array Value := #[.string (bs [109, 115]), .int .i64 1, .string (bs [115]), .int .i64 1000, .string (bs [109]), .int .i64 60000, .string (bs [104]), .int .i64 3600000, .string (bs [100]), .int .i64 86400000]
def unitText (i : Nat) : Bytes := match i with | 0 => [109, 115] | 1 => [115] | 2 => [109] | 3 => [104] | _ => [100]
def unitNum (i : Nat) : Int := match i with | 0 => 1 | 1 => 1000 | 2 => 60000 | 3 => 3600000 | _ => 86400000
theorem unitCells_at (i : Nat) (h : i < 5) : unitCells[i * 2]? = some (.string (bs (unitText i))) ∧ unitCells[i * 2 + 1]? = some (.int .i64 (unitNum i)) := by
  match i, h with
  | 0, _ => exact ⟨rfl, rfl⟩
  | 1, _ => exact ⟨rfl, rfl⟩
  | 2, _ => exact ⟨rfl, rfl⟩
  | 3, _ => exact ⟨rfl, rfl⟩
  | 4, _ => exact ⟨rfl, rfl⟩
theorem unitText_len (i : Nat) : 1 ≤ (unitText i).length ∧ (unitText i).length ≤ 2 := by
  unfold unitText
  split <;> simp

theorem unitL_at (r : Bytes) (i : Nat) (hi : i < 5) (hno : ∀ j, j < i → unitAt (unitText j) r = false) (h : unitAt (unitText i) r = true) : unitL r = (unitNum i, (unitText i).length) := by
  unfold unitL
  match i, hi with
  | 0, _ =>
    have h : unitAt [109, 115] r = true := h
    simp [h, unitNum, unitText]
  | 1, _ =>
    have h : unitAt [115] r = true := h
    have h0 : unitAt [109, 115] r = false := hno 0 (by omega)
    simp [h, h0, unitNum, unitText]
  | 2, _ =>
    have h : unitAt [109] r = true := h
    have h0 : unitAt [109, 115] r = false := hno 0 (by omega)
    have h1 : unitAt [115] r = false := hno 1 (by omega)
    simp [h, h0, h1, unitNum, unitText]
  | 3, _ =>
    have h : unitAt [104] r = true := h
    have h0 : unitAt [109, 115] r = false := hno 0 (by omega)
    have h1 : unitAt [115] r = false := hno 1 (by omega)
    have h2 : unitAt [109] r = false := hno 2 (by omega)
    simp [h, h0, h1, h2, unitNum, unitText]
  | 4, _ =>
    have h : unitAt [100] r = true := h
    have h0 : unitAt [109, 115] r = false := hno 0 (by omega)
    have h1 : unitAt [115] r = false := hno 1 (by omega)
    have h2 : unitAt [109] r = false := hno 2 (by omega)
    have h3 : unitAt [104] r = false := hno 3 (by omega)
    simp [h, h0, h1, h2, h3, unitNum, unitText]
theorem unitL_none (r : Bytes) (hno : ∀ j, j < 5 → unitAt (unitText j) r = false) : unitL r = (0, 0) := by
  have h0 : unitAt [109, 115] r = false := hno 0 (by omega)
  have h1 : unitAt [115] r = false := hno 1 (by omega)
  have h2 : unitAt [109] r = false := hno 2 (by omega)
  have h3 : unitAt [104] r = false := hno 3 (by omega)
  have h4 : unitAt [100] r = false := hno 4 (by omega)
  simp [unitL, h0, h1, h2, h3, h4]

set_option maxRecDepth 100000 in
set_option maxHeartbeats 1000000 in
theorem unit_core (B : Nat) (s : ByteArray) (at_ : Nat) (m : Nat) (err bad : Int) (w : World) (hr : Rdr w B s at_ m err bad) (hs : s.size ≤ 2000000) (hat : at_ ≤ s.size) (R : Int × Nat) (hR : Hid (unitL (s.data.toList.drop at_) = R)) :
    Calls Tryz.prog 36 #[.pointer (some ⟨B, 0, none⟩)] w fun e w' => e = .returned (.tuple #[.int .i64 R.1, .int .i64 R.2]) ∧ Rdr w' B s at_ m err bad ∧ w.grownBy w' (some B) := by
  have hB := hr.lt
  have HR := Lib.hid hr
  clear hr
  go_enter Tryz.func36, Tryz.ntmps36
  go_wp2
  go_loopg [13] 6 (fun k v13 wr => ∃ i : Nat, i + k = 6 ∧ i ≤ 5 ∧ v13 = .int .i64 i ∧ (∀ j, j < i → unitAt (unitText j) (s.data.toList.drop at_) = false) ∧ Rdr wr B s at_ m err bad ∧ Blk wr w.heap.size unitCells 87 ∧ w.grownBy wr (some B))
  case atStart => exact ⟨0, rfl, by omega, rfl, fun j h => by omega, HR.out.alloc _, Blk.new _ _ _, gb_alloc (gb_refl _ _) _⟩
  case round =>
    obtain ⟨i, hk, hi, rfl, hno, hr, hu, hg⟩ := hrel
    obtain ⟨c0, c1, c2, c3, c4, f1, f3, f4⟩ := hr.cells
    have hB' := hr.lt
    have hU := hu.lt
    by_cases hlt : i < 5
    · have hd : decide ((i : Int) < 5) = true := by simp; omega
      obtain ⟨x0, x1⟩ := unitCells_at i hlt
      have y0 := hu.cell _ x0
      have y1 := hu.cell _ x1
      clear x0 x1
      have HR1 := Lib.hid hr
      have HU := Lib.hid hu
      have HG := Lib.hid hg
      have HK := Lib.hid hk
      have HNO := Lib.hid hno
      clear hr hu hg hk hno
      obtain ⟨pre, hpre⟩ : ∃ b, Lib.hasPrefix (s.data.toList.drop at_) (unitText i) = b := ⟨_, rfl⟩
      have HP : ∀ W : World, Calls Tryz.prog 15 #[.string (s.extract at_ s.size), .string (bs (unitText i))] W fun e w' => e = .returned (.bool pre) ∧ W = w' := by
        intro W
        refine (Tryz.strings_HasPrefix _ _ _).mono ?_
        rintro e w' ⟨rfl, rfl⟩
        rw [Lib.extract_to_end, bs_toList, hpre]
        exact ⟨rfl, rfl⟩
      have HP' := Lib.hid HP
      have HPRE := Lib.hid hpre
      obtain ⟨x, hx⟩ : ∃ x, byteAt s (at_ + (bs (unitText i)).size) = x := ⟨_, rfl⟩
      have hsz := unitText_len i
      have HL : ∀ W : World, Rdr W B s at_ m err bad → Calls Tryz.prog 37 #[.pointer (some ⟨B, 0, none⟩), .int .i64 ((bs (unitText i)).size : Nat)] W fun e w' => e = .returned (.int .u8 x) ∧ ∃ n, w' = W.drewN n := by
        intro W h
        refine (look_any B s at_ m err bad _ W h hs hat (by rw [bs_size]; omega)).mono ?_
        rintro e w' ⟨rfl, h⟩
        rw [hx]
        exact ⟨rfl, h⟩
      have HL' := Lib.hid HL
      have HX := Lib.hid hx
      clear HP HL hpre hx hsz
      obtain ⟨xl, hxl⟩ : ∃ b, isLetter x = b := ⟨_, rfl⟩
      obtain ⟨xd, hxd⟩ : ∃ b, isDigit x = b := ⟨_, rfl⟩
      have HLE : ∀ W : World, Calls Tryz.prog 20 #[.int .u8 x] W fun e w' => e = .returned (.bool xl) ∧ W = w' := by
        intro W
        rw [← hxl]
        exact letter_any x W
      have HDI : ∀ W : World, Calls Tryz.prog 22 #[.int .u8 x] W fun e w' => e = .returned (.bool xd) ∧ W = w' := by
        intro W
        rw [← hxd]
        exact digit_any x W
      have HLE' := Lib.hid HLE
      have HDI' := Lib.hid HDI
      have HXL := Lib.hid hxl
      have HXD := Lib.hid hxd
      clear HLE HDI hxl hxd
      have q1 : IntKind.i64.wrap ((i : Int) + 1) = (i : Int) + 1 := IntWalk.i64_in _ (by omega)
      have e5 : ((at_ : Nat) : Int).toNat = at_ := by omega
      have hrel : ∀ W : World, wr.grownBy W (some B) → Rdr W B s at_ m err bad → Blk W w.heap.size unitCells 87 → unitAt (unitText i) (s.data.toList.drop at_) = false →
          ∃ i' : Nat, i' + (gk - 1) = 6 ∧ i' ≤ 5 ∧ Value.int .i64 ((i : Int) + 1) = .int .i64 i' ∧ (∀ j, j < i' → unitAt (unitText j) (s.data.toList.drop at_) = false) ∧ Rdr W B s at_ m err bad ∧ Blk W w.heap.size unitCells 87 ∧ w.grownBy W (some B) := by
        intro W h1 h2 h3 h4
        refine ⟨i + 1, by have := HK.out; omega, by omega, by rfl, ?_, h2, h3, gb_trans HG.out h1⟩
        intro j hj
        rcases Nat.lt_or_ge j i with h | h
        · exact HNO.out j h
        · obtain rfl : j = i := by omega
          exact h4
      have HREL := Lib.hid hrel
      clear hrel
      have hgk : gk - 1 < gk := by have := HK.out; omega
      have HGK := Lib.hid hgk
      clear hgk
      cases pre
      · go_wp2
        go_quiet ((go_at_call 15; exact quiet_eq (HP'.out _)))
        go_wp2
        go_roundg (gk - 1)
        case measure => exact HGK.out
        case rel =>
          refine HREL.out _ (gb_drewN (gb_alloc (gb_refl _ _) _) _) ((HR1.out.alloc _).drewN _) ((HU.out.alloc _).drewN _) ?_
          simp [unitAt, HPRE.out]
      · cases xl
        · cases xd
          · have hyes : unitAt (unitText i) (s.data.toList.drop at_) = true := by
              have e : lk (s.data.toList.drop at_) (unitText i).length = x := by rw [lk_byteAt, ← HX.out, bs_size]
              simp [unitAt, HPRE.out, e, HXL.out, HXD.out]
            have HRR := Lib.hid ((unitL_at _ i hlt HNO.out hyes).symm.trans hR.out)
            clear hyes
            go_wp2
            go_quiet ((first | (go_at_call 15; exact quiet_eq (HP'.out _)) | (go_at_call 37; exact Calls.quiet_of (HL'.out _ ((HR1.out.alloc _).drewN _))) | (go_at_call 20; exact quiet_eq (HLE'.out _)) | (go_at_call 22; exact quiet_eq (HDI'.out _))))
            go_wp2
            go_quiet (fail)
            go_wp2
            go_ret2
            refine ⟨?_, ((HR1.out.alloc _).drewN _).drewN _, gb_trans HG.out (gb_drewN (gb_drewN (gb_alloc (gb_refl _ _) _) _) _)⟩
            rw [← HRR.out, bs_size]
            rfl
          · go_wp2
            go_quiet ((first | (go_at_call 15; exact quiet_eq (HP'.out _)) | (go_at_call 37; exact Calls.quiet_of (HL'.out _ ((HR1.out.alloc _).drewN _))) | (go_at_call 20; exact quiet_eq (HLE'.out _)) | (go_at_call 22; exact quiet_eq (HDI'.out _))))
            go_wp2
            go_roundg (gk - 1)
            case measure => exact HGK.out
            case rel =>
              refine HREL.out _ (gb_drewN (gb_alloc (gb_refl _ _) _) _) ((HR1.out.alloc _).drewN _) ((HU.out.alloc _).drewN _) ?_
              have e : lk (s.data.toList.drop at_) (unitText i).length = x := by rw [lk_byteAt, ← HX.out, bs_size]
              simp [unitAt, e, HXD.out]
        · go_wp2
          go_quiet ((first | (go_at_call 15; exact quiet_eq (HP'.out _)) | (go_at_call 37; exact Calls.quiet_of (HL'.out _ ((HR1.out.alloc _).drewN _))) | (go_at_call 20; exact quiet_eq (HLE'.out _)) | (go_at_call 22; exact quiet_eq (HDI'.out _))))
          go_wp2
          go_roundg (gk - 1)
          case measure => exact HGK.out
          case rel =>
            refine HREL.out _ (gb_drewN (gb_alloc (gb_refl _ _) _) _) ((HR1.out.alloc _).drewN _) ((HU.out.alloc _).drewN _) ?_
            have e : lk (s.data.toList.drop at_) (unitText i).length = x := by rw [lk_byteAt, ← HX.out, bs_size]
            simp [unitAt, e, HXL.out]
    · obtain rfl : i = 5 := by omega
      have HRR := Lib.hid ((unitL_none _ hno).symm.trans hR.out)
      have HR1 := Lib.hid hr
      have HG := Lib.hid hg
      clear hr hu hg hk hno
      have hd : decide (((5 : Nat) : Int) < 5) = false := by simp
      go_wp2
      go_ret2
      refine ⟨?_, HR1.out, HG.out⟩
      rw [← HRR.out]
      rfl

/-- A period's unit, if one stands here. -/
theorem unit_any (B : Nat) (s : ByteArray) (at_ : Nat) (m : Nat) (err bad : Int) (w : World) (hr : Rdr w B s at_ m err bad) (hs : s.size ≤ 2000000) (hat : at_ ≤ s.size) (R : Int × Nat) (hR : unitL (s.data.toList.drop at_) = R) :
    Calls Tryz.prog 36 #[.pointer (some ⟨B, 0, none⟩)] w fun e w' => e = .returned (.tuple #[.int .i64 R.1, .int .i64 R.2]) ∧ Rdr w' B s at_ m err bad ∧ w.grownBy w' (some B) :=
  unit_core B s at_ m err bad w hr hs hat R (Lib.hid hR)
end Go.Proofs.YtfhiemficfibgaaGreatDoor
