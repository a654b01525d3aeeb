/- A name or a word is read. -/
import Derived.Test.YtfhiemficfibgaaGreatDoorA1
import Derived.Test.YtfhiemficfibgaaGreatDoorA2
import Derived.Test.YtfhiemficfibgaaGreatDoorShelf
set_option linter.unusedVariables false
namespace Go.Proofs.YtfhiemficfibgaaGreatDoor
open Go.RowKit

/-- A text out of its bytes. -/
def bs (l : Bytes) : ByteArray := ⟨l.toArray⟩
theorem bs_toList (l : Bytes) : (bs l).data.toList = l := by simp [bs]
theorem bs_size (l : Bytes) : (bs l).size = l.length := by simp [bs, ByteArray.size]
theorem bs_of (s : ByteArray) : bs s.data.toList = s := by cases s; simp [bs]
theorem bs_extract (s : ByteArray) (i k : Nat) : s.extract i (i + k) = bs ((s.data.toList.drop i).take k) := by
  rw [← bs_of (s.extract i (i + k)), Lib.extract_data]
  simp

/-- A token's cells. -/
def tokC (k : Int) (t : ByteArray) (n : Int) (a : Int) : Array Value := #[.int .i64 k, .string t, .int .i64 n, .int .i64 a]
def tokV (k : Int) (t : ByteArray) (n : Int) (a : Int) : Value := .agg #[.int .i64 k, .string t, .int .i64 n, .int .i64 a]
theorem ret_eq {a b : Value} (h : a = b) : Ending.returned a = .returned b := by rw [h]
theorem tok_cells {w : World} {k : Nat} {a : Int} {t : ByteArray} {n p : Int} (h : Blk w k (tokC a t n p) 28) :
    w.cell? ⟨k, 0, none⟩ = some (.int .i64 a) ∧ w.cell? ⟨k, 1, none⟩ = some (.string t) ∧ w.cell? ⟨k, 2, none⟩ = some (.int .i64 n) ∧ w.cell? ⟨k, 3, none⟩ = some (.int .i64 p) ∧
    w.frozen? ⟨k, 0, none⟩ = false ∧ w.frozen? ⟨k, 1, none⟩ = false ∧ w.frozen? ⟨k, 2, none⟩ = false ∧ w.frozen? ⟨k, 3, none⟩ = false ∧ k < w.heap.size :=
  ⟨h.cell 0 rfl, h.cell 1 rfl, h.cell 2 rfl, h.cell 3 rfl, h.free 0, h.free 1, h.free 2, h.free 3, h.lt⟩

/-- What a reading of a token leaves: the token and the place behind it; or the error and its place, and some token. -/
def ReadPost (B : Nat) (s : ByteArray) (m at_ : Nat) (g : Got) (w : World) (e : Ending) (w' : World) : Prop :=
  (∃ k t n a, e = .returned (tokV k t n a) ∧ (g.err = 0 → k = g.kind ∧ t = bs g.text ∧ n = g.n ∧ a = at_)) ∧ (g.err = 0 → Rdr w' B s (at_ + g.used) m 0 0) ∧ (g.err ≠ 0 → ∃ at1, at1 ≤ s.size ∧ Rdr w' B s at1 m g.err at_) ∧ w.grownBy w' (some B)
theorem ReadPost.ok {B : Nat} {s : ByteArray} {m at_ : Nat} {g : Got} {w w' : World} {e : Ending} (he : g.err = 0) (h : e = .returned (tokV g.kind (bs g.text) g.n at_)) (hr : Rdr w' B s (at_ + g.used) m 0 0) (hg : w.grownBy w' (some B)) : ReadPost B s m at_ g w e w' :=
  ⟨⟨_, _, _, _, h, fun _ => ⟨rfl, rfl, rfl, rfl⟩⟩, fun _ => hr, fun h => absurd he h, hg⟩
theorem ReadPost.bad {B : Nat} {s : ByteArray} {m at_ : Nat} {g : Got} {w w' : World} {e : Ending} (he : g.err ≠ 0) (k : Int) (t : ByteArray) (n a : Int) (h : e = .returned (tokV k t n a)) (at1 : Nat) (hat : at1 ≤ s.size) (hr : Rdr w' B s at1 m g.err at_) (hg : w.grownBy w' (some B)) : ReadPost B s m at_ g w e w' :=
  ⟨⟨_, _, _, _, h, fun h => absurd h he⟩, fun h => absurd h he, fun _ => ⟨at1, hat, hr⟩, hg⟩

set_option maxRecDepth 100000 in
set_option maxHeartbeats 1000000 in
theorem name_core (ws : List Bytes) (B : Nat) (s : ByteArray) (at_ : Nat) (m : Nat) (err bad : Int) (w : World) (hr : Rdr w B s at_ m err bad) (hs : s.size ≤ 2000000) (hat : at_ ≤ s.size) (hm : WordMap w m ws) (hmB : m ≠ B)
    (E : Nat) (hE : Hid (runTo isWordy s at_ = E)) (t low : ByteArray) (ht : Hid (s.extract at_ E = t)) (hlow : Hid ((Lib.toLowerA t.data.toList) = low.data.toList)) (hasc : ∀ (j : Nat) (b : UInt8), t.data.toList[j]? = some b → b.toNat < 128) (hts : t.size ≤ 140737488355328)
    (b : Bool) (hb : Hid (decide (low.data.toList ∈ ws) = b)) :
    Calls Tryz.prog 21 #[.pointer (some ⟨B, 0, none⟩)] w fun e w' => e = .returned (if b = true then tokV 2 low 0 at_ else tokV 1 t 0 at_) ∧ Rdr w' B s E m err bad ∧ w.grownBy w' (some B) := by
  obtain ⟨c0, c1, c2, c3, c4, f1, f3, f4⟩ := hr.cells
  have hB := hr.lt
  have HR := Lib.hid hr
  have HM := Lib.hid hm
  have HA := Lib.hid hasc
  clear hr hm hasc
  go_enter Tryz.func21, Tryz.ntmps21
  go_wp2_with fail
  refine (while_any 33 isWordy tells_wordy B s at_ m err bad _ ((HR.out.alloc _).alloc _) hs hat).mono ?_
  rintro e w1 ⟨rfl, hr1, hg1⟩
  rw [hE.out, ht.out]
  rw [hE.out] at hr1
  have hN1 := (Blk.new2 w _ _ _).keep hg1 (by simp; omega)
  have hN0 := ((Blk.new w _ _).alloc _).keep hg1 (by simp; omega)
  have HG1 := Lib.hid (gb_trans (gb_alloc (gb_alloc (gb_refl w (some B)) _) _) hg1)
  clear hg1
  obtain ⟨c0, c1, c2, c3, c4, f1, f3, f4⟩ := hr1.cells
  obtain ⟨t0, t1, t2, t3, g0, g1, g2, g3, hl1⟩ := tok_cells hN1
  obtain ⟨u0, u1, u2, u3, v0, v1, v2, v3, hl0⟩ := tok_cells hN0
  go_wp2_with fail
  refine (Tryz.strings_ToLower_ascii t _ hts HA.out).mono ?_
  rintro e w2 ⟨rfl, hb2⟩
  rw [hlow.out, show (⟨low.data.toList.toArray⟩ : ByteArray) = low from bs_of low]
  have hN1 := (hN1.set 1 (.string t)).below hb2
  have hN0 := (hN0.other (by omega) 1 (.string t)).below hb2
  have hr1 := (hr1.other (by omega) 1 (.string t)).below hb2
  have HG2 := Lib.hid (gb_below (gb_new HG1.out (by simp) 1 (.string t)) hb2)
  have hmw : WordMap w2 m ws := HM.out.grown HG2.out hmB
  have hlk := hmw.lookup low
  rw [hb.out] at hlk
  clear hmw hb2 c0 c1 c2 c3 c4 f1 f3 f4 t0 t1 t2 t3 g0 g1 g2 g3 hl1 u0 u1 u2 u3 v0 v1 v2 v3 hl0
  obtain ⟨c0, c1, c2, c3, c4, f1, f3, f4⟩ := hr1.cells
  obtain ⟨t0, t1, t2, t3, g0, g1, g2, g3, hl1⟩ := tok_cells (a := 1) (t := t) (n := 0) (p := at_) hN1
  obtain ⟨u0, u1, u2, u3, v0, v1, v2, v3, hl0⟩ := tok_cells hN0
  cases b
  · go_wp2
    refine bodyPost_ret (v := tokV 1 t 0 at_) (by simp [results, Tryz.results21, go_sem, u0, u1, u2, u3, tokV]) rfl ?_
    exact ⟨rfl, by repeat (first | with_reducible exact hr1 | refine Rdr.other ?_ (by omega) _ _), by repeat (first | with_reducible exact HG2.out | refine gb_new ?_ (by omega) _ _)⟩
  · go_wp2
    refine bodyPost_ret (v := tokV 2 low 0 at_) (by simp [results, Tryz.results21, go_sem, u0, u1, u2, u3, tokV]) rfl ?_
    exact ⟨rfl, by repeat (first | with_reducible exact hr1 | refine Rdr.other ?_ (by omega) _ _), by repeat (first | with_reducible exact HG2.out | refine gb_new ?_ (by omega) _ _)⟩

theorem ascii_of_run {p : Int → Bool} (hp : ∀ c, p c = true → c < 128) (l : Bytes) (k : Nat) (hk : k = run p l) : ∀ (j : Nat) (b : UInt8), (l.take k)[j]? = some b → b.toNat < 128 := by
  intro j b hj
  rw [List.getElem?_take] at hj
  split at hj
  · rename_i h
    have := run_within p l j (by omega)
    rw [List.getD_eq_getElem?_getD, hj] at this
    have := hp _ this
    simp at this
    omega
  · cases hj
theorem wordy_lt (c : Int) (h : isWordy c = true) : c < 128 := by
  simp [isWordy, isLetter, isDigit] at h
  omega

/-- A name or a word. -/
theorem name_any (ws : List Bytes) (B : Nat) (s : ByteArray) (at_ : Nat) (m : Nat) (err bad : Int) (w : World) (hr : Rdr w B s at_ m err bad) (hs : s.size ≤ 2000000) (hat : at_ ≤ s.size) (hm : WordMap w m ws) (hmB : m ≠ B) (g : Got) (hg : nameL ws (s.data.toList.drop at_) = g) :
    Calls Tryz.prog 21 #[.pointer (some ⟨B, 0, none⟩)] w fun e w' => e = .returned (tokV g.kind (bs g.text) g.n at_) ∧ Rdr w' B s (at_ + g.used) m err bad ∧ w.grownBy w' (some B) := by
  have hl : runTo isWordy s at_ = at_ + run isWordy (s.data.toList.drop at_) := rfl
  have ht : s.extract at_ (at_ + run isWordy (s.data.toList.drop at_)) = bs ((s.data.toList.drop at_).take (run isWordy (s.data.toList.drop at_))) := bs_extract _ _ _
  have hsz : (bs ((s.data.toList.drop at_).take (run isWordy (s.data.toList.drop at_)))).size ≤ 140737488355328 := by
    rw [bs_size, List.length_take, List.length_drop, size_list]
    omega
  refine (name_core ws B s at_ m err bad w hr hs hat hm hmB _ (Lib.hid hl) _ (bs (Lib.toLowerA ((s.data.toList.drop at_).take (run isWordy (s.data.toList.drop at_))))) (Lib.hid ht) (Lib.hid (by rw [bs_toList, bs_toList])) (by rw [bs_toList]; exact ascii_of_run wordy_lt _ _ rfl) hsz _ (Lib.hid rfl)).mono ?_
  rintro e w' ⟨rfl, h1, h2⟩
  rw [bs_toList]
  subst hg
  unfold nameL
  dsimp only
  by_cases h : Lib.toLowerA ((s.data.toList.drop at_).take (run isWordy (s.data.toList.drop at_))) ∈ ws
  · simp only [h, decide_true, if_true]
    exact ⟨trivial, h1, h2⟩
  · simp only [h, decide_false, if_false, Bool.false_eq_true]
    exact ⟨trivial, h1, h2⟩
end Go.Proofs.YtfhiemficfibgaaGreatDoor
