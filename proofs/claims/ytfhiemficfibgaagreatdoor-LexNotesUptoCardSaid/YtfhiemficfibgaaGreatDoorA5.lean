/- A sign is read. -/
import Derived.Test.YtfhiemficfibgaaGreatDoorA3
set_option linter.unusedVariables false
namespace Go.Proofs.YtfhiemficfibgaaGreatDoor
open Go.RowKit

theorem find_at {α : Type} (p : α → Bool) (d : α) : ∀ (l : List α) (i : Nat), i < l.length → (∀ j, j < i → p (l.getD j d) = false) → p (l.getD i d) = true → l.find? p = some (l.getD i d)
  | [], i, h, _, _ => by simp at h
  | x :: l, 0, _, _, h => by
    have h : p x = true := h
    simp [List.find?, h]
  | x :: l, i + 1, hi, hno, h => by
    have h0 : p x = false := hno 0 (by omega)
    have := find_at p d l i (by simpa using hi) (fun j hj => hno (j + 1) (by omega)) h
    simpa [List.find?, h0] using this
theorem find_no {α : Type} (p : α → Bool) (d : α) (l : List α) (h : ∀ j, j < l.length → p (l.getD j d) = false) : l.find? p = none := by
  rw [List.find?_eq_none]
  intro x hx
  obtain ⟨i, hi, rfl⟩ := List.getElem_of_mem hx
  have := h i hi
  rw [List.getD_eq_getElem?_getD, List.getElem?_eq_getElem hi] at this
  simpa using this

def signCells : Array Value := (signs.map fun g => Value.string (bs g)).toArray
def sg (i : Nat) : Bytes := signs.getD i []
theorem signCells_at (i : Nat) (h : i < 20) : signCells[i]? = some (.string (bs (sg i))) := by
  have : i < signs.length := h
  simp [signCells, sg, List.getElem?_eq_getElem this, List.getD_eq_getElem?_getD]
theorem sg_len (i : Nat) (h : i < 20) : 1 ≤ (sg i).length ∧ (sg i).length ≤ 2 := by
  have : ∀ i : Fin 20, 1 ≤ (sg i).length ∧ (sg i).length ≤ 2 := by decide
  exact this ⟨i, h⟩

set_option maxRecDepth 100000 in
set_option maxHeartbeats 1000000 in
theorem sign_core (B : Nat) (s : ByteArray) (at_ : Nat) (m : Nat) (w : World) (hr : Rdr w B s at_ m 0 0) (hs : s.size ≤ 2000000) (hat : at_ ≤ s.size) (g : Got) (hg : Hid (signL (s.data.toList.drop at_) = g)) :
    Calls Tryz.prog 25 #[.pointer (some ⟨B, 0, none⟩)] w (ReadPost B s m at_ g w) := by
  have hB := hr.lt
  have HR := Lib.hid hr
  clear hr
  go_enter Tryz.func25, Tryz.ntmps25
  go_wp2
  go_loopg [7] 21 (fun k v7 wr => ∃ i : Nat, i + k = 21 ∧ i ≤ 20 ∧ v7 = .int .i64 i ∧ (∀ j, j < i → Lib.hasPrefix (s.data.toList.drop at_) (sg j) = false) ∧ Rdr wr B s at_ m 0 0 ∧ Blk wr (w.heap.size + 1) signCells 9 ∧ Blk wr w.heap.size (tokC 0 (bs []) 0 0) 28 ∧ w.grownBy wr (some B))
  case atStart => exact ⟨0, rfl, by omega, rfl, fun j h => by omega, (HR.out.alloc _).alloc _, Blk.new2 _ _ _ _, (Blk.new _ _ _).alloc _, gb_alloc (gb_alloc (gb_refl _ _) _) _⟩
  case round =>
    obtain ⟨i, hk, hi, rfl, hno, hr, hu, ht, hgr⟩ := hrel
    obtain ⟨c0, c1, c2, c3, c4, f1, f3, f4⟩ := hr.cells
    obtain ⟨u0, u1, u2, u3, v0, v1, v2, v3, hl0⟩ := tok_cells ht
    have hB' := hr.lt
    have hU := hu.lt
    have q1 : IntKind.i64.wrap ((i : Int) + 1) = (i : Int) + 1 := IntWalk.i64_in _ (by omega)
    have e5 : ((at_ : Nat) : Int).toNat = at_ := by omega
    by_cases hlt : i < 20
    · have hd : decide ((i : Int) < 20) = true := by simp; omega
      have y0 := hu.cell _ (signCells_at i hlt)
      have hsl := sg_len i hlt
      have hbl : (bs (sg i)).size = (sg i).length := bs_size _
      obtain ⟨G, hG⟩ : ∃ G, bs (sg i) = G := ⟨_, rfl⟩
      have HR1 := Lib.hid hr
      have HU := Lib.hid hu
      have HT := Lib.hid ht
      have HGR := Lib.hid hgr
      have HK := Lib.hid hk
      have HNO := Lib.hid hno
      obtain ⟨pre, hpre⟩ : ∃ b, Lib.hasPrefix (s.data.toList.drop at_) (sg i) = b := ⟨_, rfl⟩
      have HP : ∀ W : World, Calls Tryz.prog 15 #[.string (s.extract at_ s.size), .string G] W fun e w' => e = .returned (.bool pre) ∧ W = w' := by
        intro W
        rw [← hG]
        refine (Tryz.strings_HasPrefix _ _ _).mono ?_
        rintro e w' ⟨rfl, rfl⟩
        rw [Lib.extract_to_end, bs_toList, hpre]
        exact ⟨rfl, rfl⟩
      have HP' := Lib.hid HP
      have HPRE := Lib.hid hpre
      rw [hG] at y0 hbl
      have HGG := Lib.hid hG
      obtain ⟨L, hL⟩ : ∃ L, (sg i).length = L := ⟨_, rfl⟩
      rw [hL] at hbl hsl
      have HLL := Lib.hid hL
      have HBL := Lib.hid hbl
      have hgs : G.size ≤ 2 := by omega
      have hgs0 : 1 ≤ G.size := by omega
      clear hr hu ht hgr hk hno HP hpre hG hL hbl
      cases pre
      · go_wp2
        go_quiet ((go_at_call 15; exact quiet_eq (HP'.out _)))
        go_wp2
        go_roundg (gk - 1)
        case measure => have := HK.out; omega
        case rel =>
          refine ⟨i + 1, by have := HK.out; omega, by omega, by rfl, ?_, HR1.out.drewN _, HU.out.drewN _, HT.out.drewN _, gb_drewN HGR.out _⟩
          intro j hj
          rcases Nat.lt_or_ge j i with h | h
          · exact HNO.out j h
          · obtain rfl : j = i := by omega
            exact HPRE.out
      · have hfit : at_ + G.size ≤ s.size := by
          have := hasPrefix_length HPRE.out
          rw [List.length_drop, size_list, HLL.out] at this
          have := HBL.out
          omega
        have q2 : IntKind.i64.wrap ((at_ : Int) + G.size) = (at_ : Int) + G.size := IntWalk.i64_in _ (by omega)
        have q3 : IntKind.i64.wrap ((at_ : Int) + G.size - G.size) = (at_ : Int) := by rw [show (at_ : Int) + G.size - G.size = at_ from by omega]; exact IntWalk.i64_in _ (by omega)
        go_wp2
        go_quiet ((go_at_call 15; exact quiet_eq (HP'.out _)))
        go_wp2
        have hgot : g = ⟨6, sg i, 0, (sg i).length, 0⟩ := by
          rw [← hg.out]
          unfold signL
          have := find_at (fun g => Lib.hasPrefix (s.data.toList.drop at_) g) [] signs i hlt HNO.out HPRE.out
          rw [this]
          rfl
        refine bodyPost_ret (v := tokV 6 G 0 at_) (by simp [results, Tryz.results25, go_sem, u0, u1, u2, u3, tokV]) rfl ?_
        refine ReadPost.ok (by rw [hgot]) (by rw [hgot, ← HGG.out]) ?_ ?_
        · rw [hgot]
          have e1 : (sg i).length = G.size := by rw [HBL.out, HLL.out]
          dsimp only
          rw [e1]
          have h := fun n => (HR1.out.drewN n).set.1 (at_ + G.size)
          rw [show ((at_ + G.size : Nat) : Int) = (at_ : Int) + G.size from by omega] at h
          repeat (first | with_reducible exact h _ | refine Rdr.other ?_ (by omega) _ _)
        · repeat (first | with_reducible exact gb_drewN HGR.out _ | refine gb_row ?_ _ _ | refine gb_new ?_ (by omega) _ _)
    · obtain rfl : i = 20 := by omega
      have HR1 := Lib.hid hr
      have HU := Lib.hid hu
      have HT := Lib.hid ht
      have HGR := Lib.hid hgr
      have HK := Lib.hid hk
      have HNO := Lib.hid hno
      clear hr hu ht hgr hk hno
      have hd : decide (((20 : Nat) : Int) < 20) = false := by simp
      have hgot : g = ⟨0, [], 0, 0, 50⟩ := by
        rw [← hg.out]
        unfold signL
        have := find_no (fun g => Lib.hasPrefix (s.data.toList.drop at_) g) [] signs HNO.out
        rw [this]
      have HGOT := Lib.hid hgot
      clear hgot
      go_wp2_with fail
      refine (fail_any B s at_ m 0 0 50 at_ _ HR1.out).mono ?_
      rintro e w1 ⟨rfl, hr1, hg1⟩
      have HT1 := HT.out.keep hg1 (by simp; omega)
      obtain ⟨u0, u1, u2, u3, v0, v1, v2, v3, hl0⟩ := tok_cells HT1
      have HR2 := Lib.hid hr1
      have HG2 := Lib.hid (gb_trans HGR.out hg1)
      clear hr1 hg1
      go_wp2
      refine bodyPost_ret (v := tokV 0 (bs []) 0 0) (by simp [results, Tryz.results25, go_sem, u0, u1, u2, u3, tokV, bs]) rfl ?_
      rw [HGOT.out]
      refine ReadPost.bad (by simp) _ _ _ _ rfl at_ hat ?_ ?_
      · have := HR2.out
        simp only [failE, failB, if_true] at this
        repeat (first | with_reducible exact this | refine Rdr.other ?_ (by omega) _ _)
      · repeat (first | with_reducible exact HG2.out | refine gb_new ?_ (by omega) _ _)
end Go.Proofs.YtfhiemficfibgaaGreatDoor
