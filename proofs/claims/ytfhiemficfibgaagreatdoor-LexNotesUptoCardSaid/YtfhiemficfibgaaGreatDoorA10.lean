/- A text is read. -/
import Derived.Test.YtfhiemficfibgaaGreatDoorA7
import Derived.Test.YtfhiemficfibgaaGreatDoorBu
import Derived.StillTailTactics
set_option linter.unusedVariables false
namespace Go.Proofs.YtfhiemficfibgaaGreatDoor
open Go.RowKit

theorem NumSt.belowN {B : Nat} {s : ByteArray} {m at_ : Nat} {w wx wy : World} {E : Nat} {e k n : Int} (h : NumSt B s m at_ w wx E e k n) (hB : B < w.heap.size) (hb : Below (w.heap.size + 2) wx wy) : NumSt B s m at_ w wy E e k n :=
  ⟨⟨by rw [hb.block B (by omega)]; exact h.rdr.block⟩, ⟨by rw [hb.block _ (by omega)]; exact h.tok.block⟩, ⟨by rw [hb.block _ (by omega)]; exact h.res.block⟩,
    ⟨by rw [hb.os, h.grown.os], by rw [hb.tape, h.grown.tape], by rw [hb.output, h.grown.output], Nat.le_trans h.grown.size hb.size, fun j hj hr => by rw [hb.block j (by omega)]; exact h.grown.block j hj hr⟩⟩
theorem bld_kept {b : Nat} {l : List Value} {wx wy : World} {k : Nat} (h : Lib.IsBuilder 67 5 b b l wx) (hg : wx.grownBy wy (some k)) (hk : k < b) : Lib.IsBuilder 67 5 b b l wy := by
  rcases h with ⟨h1, v, h2, h3, h4⟩ | ⟨h1, v, h2, h3, h4⟩
  · refine .inl ⟨h1, v, ?_, h3.kept hg ?_, h4⟩
    · rw [hg.block b (Array.getElem?_eq_some_iff.1 h2).1 (fun e => by injection e with e; omega)]; exact h2
    · rcases h3.2 with ⟨rfl, _⟩ | ⟨g, cap, cur, rfl, hb, _⟩
      · exact .inl rfl
      · exact .inr (fun e => by simp [Value.ownBlock] at e; omega)
  · refine .inr ⟨h1, v, ?_, h3.kept hg ?_, h4⟩
    · rw [hg.block b (Array.getElem?_eq_some_iff.1 h2).1 (fun e => by injection e with e; omega)]; exact h2
    · rcases h3.2 with ⟨rfl, _⟩ | ⟨g, cap, cur, rfl, hb, _⟩
      · exact .inl rfl
      · exact .inr (fun e => by simp [Value.ownBlock] at e; omega)
theorem bld_lt {b : Nat} {l : List Value} {wx : World} (h : Lib.IsBuilder 67 5 b b l wx) : b < wx.heap.size := by
  rcases h with h | h <;> exact h.lt

theorem bld_drewN {b : Nat} {l : List Value} {wx : World} (h : Lib.IsBuilder 67 5 b b l wx) (n : Nat) : Lib.IsBuilder 67 5 b b l (wx.drewN n) := h
theorem IsB.of {b : Nat} {l : List Value} {wx : World} (h : Lib.BuilderAt 67 5 b b (.pointer (some ⟨b, 0, none⟩)) l wx) : Lib.IsBuilder 67 5 b b l wx := .inr h

/-- 'wp_region_still_tail', the draw in the walk's own spelling. -/
theorem region_tail {P : Program} {id : Nat} {Q : Exit → Act → World → Prop} {a : Act} {w : World} {l : List Oper} (n : Nat) (hm : P.follows .mixedOrders = true) (hB : Region.lexTailB .any l.toArray n = true)
    (h : wpStill P l.toArray (w.drewN 1) (fun a' => wpList P l.toArray Q (l.drop n) a' (w.drewN 1)) (l.take n) a) : (Code.region id l.toArray true).wp P Q a w :=
  wp_region_still_tail n hm hB h

/-- How what is still to come of a text stands to all of it. -/
def TextRel (r0 : Bytes) (acc : Bytes) (u : Nat) (r : Bytes) : Prop := textC r0 = (textC r).map fun x => (acc ++ x.1, x.2 + u)

/-- What holds of the memory when a text has been read. -/
structure TextEnd (B : Nat) (s : ByteArray) (m at_ : Nat) (w wx : World) (E : Nat) (e : Int) (Z : ByteArray) : Prop where
  rdr : Rdr wx B s E m e (bOf at_ e)
  tok : Blk wx (w.heap.size + 1) (tokC 5 Z 0 at_) 28
  res : Blk wx w.heap.size (tokC 0 (bs []) 0 0) 28
  grown : w.grownBy wx (some B)
theorem TextEnd.gb {B : Nat} {s : ByteArray} {m at_ : Nat} {w wx wy : World} {E : Nat} {e : Int} {Z : ByteArray} (h : TextEnd B s m at_ w wx E e Z) (hB : B < w.heap.size) {E' : Nat} {e' : Int} (hr : Rdr wy B s E' m e' (bOf at_ e')) (hg : wx.grownBy wy (some B)) : TextEnd B s m at_ w wy E' e' Z :=
  ⟨hr, h.tok.keep hg (by simp; omega), h.res.keep hg (by simp; omega), gb_trans h.grown hg⟩
theorem TextEnd.below {B : Nat} {s : ByteArray} {m at_ : Nat} {w wx wy : World} {E : Nat} {e : Int} {Z : ByteArray} (h : TextEnd B s m at_ w wx E e Z) (hb : Below wx.heap.size wx wy) : TextEnd B s m at_ w wy E e Z :=
  ⟨h.rdr.below hb, h.tok.below hb, h.res.below hb, gb_below h.grown hb⟩
theorem NumSt.text {B : Nat} {s : ByteArray} {m at_ : Nat} {w wx : World} {E : Nat} {e : Int} (h : NumSt B s m at_ w wx E e 5 0) (hB : B < w.heap.size) (Z : ByteArray) : TextEnd B s m at_ w (wx.setCell ⟨w.heap.size + 1, 1, none⟩ (.string Z)) E e Z :=
  ⟨h.rdr.other (by omega) _ _, h.tok.set 1 _, h.res.other (by omega) _ _, gb_new h.grown (by omega) _ _⟩
theorem TextEnd.out {B : Nat} {s : ByteArray} {m at_ : Nat} {w wx : World} {E : Nat} {e : Int} {Z : ByteArray} (h : TextEnd B s m at_ w wx E e Z) (hB : B < w.heap.size) (v0 v1 v2 v3 : Value) :
    Rdr ((((wx.setCell ⟨w.heap.size, 0, none⟩ v0).setCell ⟨w.heap.size, 1, none⟩ v1).setCell ⟨w.heap.size, 2, none⟩ v2).setCell ⟨w.heap.size, 3, none⟩ v3) B s E m e (bOf at_ e) ∧
    w.grownBy ((((wx.setCell ⟨w.heap.size, 0, none⟩ v0).setCell ⟨w.heap.size, 1, none⟩ v1).setCell ⟨w.heap.size, 2, none⟩ v2).setCell ⟨w.heap.size, 3, none⟩ v3) (some B) :=
  ⟨(((h.rdr.other (by omega) _ _).other (by omega) _ _).other (by omega) _ _).other (by omega) _ _, gb_new (gb_new (gb_new (gb_new h.grown (by omega) _ _) (by omega) _ _) (by omega) _ _) (by omega) _ _⟩

set_option maxRecDepth 100000 in
set_option maxHeartbeats 2000000 in
theorem text_core (B : Nat) (s : ByteArray) (at_ : Nat) (m : Nat) (w : World) (hr : Rdr w B s at_ m 0 0) (hs : s.size ≤ 2000000) (hat : at_ < s.size) (hE : Env w) (hB12 : 12 ≤ B) (g : Got) (hg : Hid (textL (s.data.toList.drop at_) = g)) :
    Calls Tryz.prog 24 #[.pointer (some ⟨B, 0, none⟩)] w (ReadPost B s m at_ g w) := by
  have hB := hr.lt
  obtain ⟨c0, c1, c2, c3, c4, f1, f3, f4⟩ := hr.cells
  have HR := Lib.hid hr
  have HE := Lib.hid hE
  have q1 : IntKind.i64.wrap ((at_ : Int) + 1) = (at_ : Int) + 1 := IntWalk.i64_in _ (by omega)
  clear hr hE
  go_enter Tryz.func24, Tryz.ntmps24
  go_wp2
  go_loopg [] (s.size - at_) (fun k wr => ∃ (j : Nat) (acc : Bytes), j + k = s.size + 1 ∧ at_ + 1 ≤ j ∧ j ≤ s.size ∧ NumSt B s m at_ w wr j 0 5 0 ∧ Lib.IsBuilder 67 5 (w.heap.size + 1 + 1) (w.heap.size + 1 + 1) (Lib.byteCells acc) wr ∧ acc.length ≤ j ∧ TextRel (s.data.toList.drop (at_ + 1)) acc (j - (at_ + 1)) (s.data.toList.drop j))
  case atStart =>
    refine ⟨at_ + 1, [], by omega, by omega, by omega, ?_, ?_, by simp, ?_⟩
    · have h1 := HR.out.set.1 (at_ + 1)
      rw [show ((at_ + 1 : Nat) : Int) = (at_ : Int) + 1 from by omega] at h1
      refine ⟨((h1.alloc _).alloc _).alloc _, ?_, ?_, gb_alloc (gb_alloc (gb_alloc (gb_row (gb_refl _ _) _ _) _) _) _⟩
      · have := (Blk.new2 (w.setCell ⟨B, 1, none⟩ (.int .i64 ((at_ : Int) + 1))) (.cells (tokC 0 (bs []) 0 0) 28) (tokC 5 (bs []) 0 at_) 28).alloc (.cells #[.pointer none, .slice none 0 0] 67)
        rw [size_set] at this
        exact this
      · have := ((Blk.new (w.setCell ⟨B, 1, none⟩ (.int .i64 ((at_ : Int) + 1))) (tokC 0 (bs []) 0 0) 28).alloc (.cells (tokC 5 (bs []) 0 at_) 28)).alloc (.cells #[.pointer none, .slice none 0 0] 67)
        rw [size_set] at this
        exact this
    · have := Lib.fresh_isBuilder 67 5 (((w.setCell ⟨B, 1, none⟩ (.int .i64 ((at_ : Int) + 1))).alloc (.cells (tokC 0 (bs []) 0 0) 28)).alloc (.cells (tokC 5 (bs []) 0 at_) 28))
      rw [size_alloc, size_alloc, size_set] at this
      exact this
    · unfold TextRel
      cases textC (s.data.toList.drop (at_ + 1)) <;> simp
  case round =>
    obtain ⟨j, acc, hk, hj1, hj2, hS, hb, hal, hrel⟩ := hrel
    clear c0 c1 c2 c3 c4 f1 f3 f4
    obtain ⟨c0, c1, c2, c3, c4, f1, f3, f4⟩ := hS.rdr.cells
    obtain ⟨t0, t1, t2, t3, g0, g1, g2, g3, hl1⟩ := tok_cells hS.tok
    have hBw := hS.rdr.lt
    have HS := Lib.hid hS
    have HBL := Lib.hid hb
    have HREL := Lib.hid hrel
    have HK := Lib.hid hk
    clear hS hb hrel hk
    obtain ⟨i, hi⟩ : ∃ i, Lib.indexByte (s.data.toList.drop j) 39 = i := ⟨_, rfl⟩
    have hige := Lib.indexByte_ge (s.data.toList.drop j) 39
    rw [hi] at hige
    have HI : ∀ W : World, Calls Tryz.prog 39 #[.string (s.extract j s.size), .int .u8 39] W fun e w' => e = .returned (.int .i64 i) ∧ W = w' := by
      intro W
      refine (Tryz.strings_IndexByte _ _ _).mono ?_
      rintro e w' ⟨rfl, rfl⟩
      rw [Lib.extract_to_end]
      exact ⟨by rw [← hi]; rfl, rfl⟩
    have HI' := Lib.hid HI
    have HIX := Lib.hid hi
    clear HI hi
    have e5 : ((j : Nat) : Int).toNat = j := by omega
    by_cases hneg : i < 0
    · have hgot : g = ⟨5, [], 0, (s.data.toList.drop at_).length, 52⟩ := by
        have h1 := textC_none _ (by rw [HIX.out]; exact hneg)
        have h2 := HREL.out
        unfold TextRel at h2
        rw [h1] at h2
        rw [← hg.out]
        unfold textL
        rw [List.drop_drop, h2]
        rfl
      have HGOT := Lib.hid hgot
      clear hgot
      go_wp2
      go_quiet ((go_at_call 39; exact quiet_eq (HI'.out _)))
      go_wp2_with fail
      refine (fail_any B s j m 0 0 52 at_ _ (HS.out.rdr.drewN _)).mono ?_
      rintro e w1 ⟨rfl, hr1, hg1⟩
      have HS1 := Lib.hid ((HS.out.drewN _).gb hB (e' := 52) (by simpa [failE, failB, bOf] using hr1) hg1)
      clear hr1 hg1 c0 c1 c2 c3 c4 f1 f3 f4 t0 t1 t2 t3 g0 g1 g2 g3 hl1
      obtain ⟨t0, t1, t2, t3, g0, g1, g2, g3, hl1⟩ := tok_cells HS1.out.tok
      obtain ⟨u0, u1, u2, u3, v0, v1, v2, v3, hl0⟩ := tok_cells HS1.out.res
      go_wp2
      refine bodyPost_ret (v := tokV 5 (bs []) 0 at_) (by simp [results, Tryz.results24, go_sem, u0, u1, u2, u3, tokV]) rfl ?_
      obtain ⟨o1, o2⟩ := HS1.out.out hB (.int .i64 5) (.string (bs [])) (.int .i64 0) (.int .i64 at_)
      rw [HGOT.out]
      exact ReadPost.bad (by simp) 5 (bs []) 0 at_ rfl j hj2 (by simpa [bOf] using o1) o2
    · obtain ⟨n, rfl⟩ : ∃ n : Nat, i = (n : Int) := ⟨i.toNat, by omega⟩
      obtain ⟨hn1, hn2⟩ := textC_some _ n HIX.out
      rw [List.length_drop, size_list] at hn1
      have HN2 := Lib.hid hn2
      clear hn2
      have q2 : IntKind.i64.wrap ((j : Int) + n) = (j : Int) + n := IntWalk.i64_in _ (by omega)
      have e6 : ((j : Int) + n).toNat = j + n := by omega
      have e7 : (0 : Int) ≤ (j : Int) + n := by omega
      have e8 : ((j : Int) + n) ≤ s.size := by omega
      have e9 : (j : Int) ≤ (j : Int) + n := by omega
      go_wp2
      go_quiet ((go_at_call 39; exact quiet_eq (HI'.out _)))
      go_upto_region 8 with fail
      refine region_tail 15 (by kernel_rfl) (by kernel_rfl) ?_
      simp only [List.take_succ_cons, List.take_zero, List.drop_succ_cons, List.drop_zero]
      repeat still_step
      refine wpStill_nil ?_
      have hsz8 : (s.extract j (j + n)).size = n := by simp; omega
      go_wp2_with fail
      have hWS := fun (W : World) (h : Lib.IsBuilder 67 5 (w.heap.size + 1 + 1) (w.heap.size + 1 + 1) (Lib.byteCells acc) W) => Builder_WriteString (w.heap.size + 1 + 1) (w.heap.size + 1 + 1) (Lib.byteCells acc) (s.extract j (j + n)) W h (by rw [Lib.byteCells_length, hsz8]; omega) (by have := bld_lt h; omega)
      refine (hWS _ (bld_drewN HBL.out _)).mono ?_
      rintro e w1 ⟨rfl, hb1, hbl1⟩
      have HB1 := Lib.hid (IsB.of hb1)
      have HS1 := Lib.hid ((HS.out.drewN _).belowN hB hbl1)
      clear hWS hb1 hbl1 c0 c1 c2 c3 c4 f1 f3 f4 t0 t1 t2 t3 g0 g1 g2 g3 hl1 hBw hsz8 e6 e7 e8 e9 HI'
      obtain ⟨c0, c1, c2, c3, c4, f1, f3, f4⟩ := HS1.out.rdr.cells
      have q3 : IntKind.i64.wrap ((n : Int) + 1) = (n : Int) + 1 := IntWalk.i64_in _ (by omega)
      have q4 : IntKind.i64.wrap ((j : Int) + ((n : Int) + 1)) = (j : Int) + ((n : Int) + 1) := IntWalk.i64_in _ (by omega)
      have HS2 := Lib.hid (HS1.out.at_to hB (j + n + 1))
      have HB2 := Lib.hid (bld_kept HB1.out (gb_row (gb_refl _ (some B)) 1 (.int .i64 ((j + n + 1 : Nat) : Int))) (by omega))
      rw [show ((j + n + 1 : Nat) : Int) = (j : Int) + ((n : Int) + 1) from by omega] at HS2 HB2
      obtain ⟨x, hx⟩ : ∃ x, byteAt s (j + n + 1) = x := ⟨_, rfl⟩
      have L0 : ∀ W : World, Rdr W B s (j + n + 1) m 0 0 → Calls Tryz.prog 37 #[.pointer (some ⟨B, 0, none⟩), .int .i64 0] W fun e w' => e = .returned (.int .u8 x) ∧ ∃ n, w' = W.drewN n := by
        intro W h
        have := look_any B s (j + n + 1) m 0 0 0 W h hs (by omega) (by omega)
        rw [Nat.add_zero, hx] at this
        exact this
      have HL0 := Lib.hid L0
      have HX : Hid (lk ((s.data.toList.drop j).drop (n + 1)) 0 = x) := by rw [List.drop_drop, lk_byteAt, ← hx]; rfl
      clear L0 hx
      have hcat : Lib.byteCells acc ++ Lib.strCells (s.extract j (j + n)) = Lib.byteCells (acc ++ (s.data.toList.drop j).take n) := by
        rw [Lib.strCells_eq, Lib.extract_data]
        simp [Lib.byteCells]
      rw [hcat] at HB2
      clear hcat HB1
      have hlen2 : (acc ++ (s.data.toList.drop j).take n).length ≤ j + n := by simp; omega
      go_wp2_with fail
      refine (HL0.out _ (by simpa [bOf] using HS2.out.rdr)).mono ?_
      rintro e w2 ⟨rfl, n2, rfl⟩
      have HS3 := Lib.hid (HS2.out.drewN n2)
      have HB3 := Lib.hid (bld_drewN HB2.out n2)
      clear HS2 HB2 c0 c1 c2 c3 c4 f1 f3 f4
      by_cases h39 : x = 39
      · have hx1 : (x == 39) = true := by simpa using h39
        have HN3 : Hid (textC (s.data.toList.drop j) = (textC ((s.data.toList.drop j).drop (n + 2))).map fun y => ((s.data.toList.drop j).take n ++ 39 :: y.1, y.2 + (n + 2))) := by
          have := HN2.out
          rw [HX.out, if_pos h39] at this
          exact this
        have hjn : j + n + 1 < s.size := by
          have := HX.out
          have h0 : lk ((s.data.toList.drop j).drop (n + 1)) 0 ≠ 0 := by rw [this, h39]; decide
          have := lk_lt _ _ h0
          simp at this
          omega
        clear h39
        go_wp2_with fail
        have hWB := fun (W : World) (h : Lib.IsBuilder 67 5 (w.heap.size + 1 + 1) (w.heap.size + 1 + 1) (Lib.byteCells (acc ++ (s.data.toList.drop j).take n)) W) => Builder_WriteByte (w.heap.size + 1 + 1) (w.heap.size + 1 + 1) _ 39 W h (by rw [Lib.byteCells_length]; omega) (by have := bld_lt h; omega)
        refine (hWB _ HB3.out).mono ?_
        rintro e w4 ⟨rfl, hb4, hbl4⟩
        have HB4 := Lib.hid (IsB.of hb4)
        have HS4 := Lib.hid (HS3.out.belowN hB hbl4)
        clear hWB hb4 hbl4
        obtain ⟨c0, c1, c2, c3, c4, f1, f3, f4⟩ := HS4.out.rdr.cells
        have q5 : IntKind.i64.wrap (((j + n + 1 : Nat) : Int) + 1) = ((j + n + 1 : Nat) : Int) + 1 := IntWalk.i64_in _ (by omega)
        have HS5 := Lib.hid (HS4.out.at_to hB (j + n + 2))
        have HB5 := Lib.hid (bld_kept HB4.out (gb_row (gb_refl _ (some B)) 1 (.int .i64 ((j + n + 2 : Nat) : Int))) (by omega))
        go_wp2
        go_roundg (gk - (n + 2))
        case measure => have := HK.out; omega
        case rel =>
          have h5 := HS5.out
          have h6 := HB5.out
          rw [show ((j + n + 2 : Nat) : Int) = (j : Int) + n + 1 + 1 from by omega] at h5 h6
          have e1 : Lib.byteCells (acc ++ (s.data.toList.drop j).take n) ++ [Value.int .u8 39] = Lib.byteCells (acc ++ (s.data.toList.drop j).take n ++ [39]) := by
            simp [Lib.byteCells]
          rw [e1] at h6
          refine ⟨j + n + 2, acc ++ (s.data.toList.drop j).take n ++ [39], by have := HK.out; omega, by omega, by omega, h5, h6, by rw [List.length_append]; simp; omega, ?_⟩
          have h7 := HREL.out
          unfold TextRel at h7 ⊢
          rw [h7, HN3.out, List.drop_drop, show j + (n + 2) = j + n + 2 from by omega]
          cases textC (s.data.toList.drop (j + n + 2))
          · rfl
          · simp
            omega
      · have hx1 : (x == 39) = false := by simpa using h39
        have HN3 : Hid (textC (s.data.toList.drop j) = some ((s.data.toList.drop j).take n, n + 1)) := by
          have := HN2.out
          rw [HX.out, if_neg h39] at this
          exact this
        clear h39
        obtain ⟨T, hT⟩ : ∃ T, acc ++ (s.data.toList.drop j).take n = T := ⟨_, rfl⟩
        rw [hT] at HB3 hlen2
        have hgot : g = ⟨5, T, 0, j + n + 1 - at_, if (decide (1024 < T.length) || !Lib.validD T) = true then 52 else 0⟩ := by
          have h7 := HREL.out
          unfold TextRel at h7
          rw [HN3.out] at h7
          rw [← hg.out]
          unfold textL
          rw [List.drop_drop, h7]
          simp only [Option.map_some, hT]
          rw [show n + 1 + (j - (at_ + 1)) + 1 = j + n + 1 - at_ from by omega]
        have HGOT := Lib.hid hgot
        clear hgot hT
        go_wp2_with fail
        refine (Tryz.Builder_String_any (w.heap.size + 1 + 1) (w.heap.size + 1 + 1) T _ HB3.out (by have := bld_lt HB3.out; omega)).mono ?_
        rintro e w4 ⟨rfl, hbl4⟩
        rw [show (⟨T.toArray⟩ : ByteArray) = bs T from rfl]
        have HS4 := Lib.hid (HS3.out.belowN hB hbl4)
        clear hbl4
        obtain ⟨t0, t1, t2, t3, g0, g1, g2, g3, hl1⟩ := tok_cells HS4.out.tok
        have hTs : (bs T).size = T.length := bs_size T
        obtain ⟨Z, hZ⟩ : ∃ Z, bs T = Z := ⟨_, rfl⟩
        rw [hZ] at hTs ⊢
        have HZ := Lib.hid hZ
        clear hZ
        have hbr : ∀ W : World, Env W → Calls Tryz.prog 43 #[.string Z] W fun e w' => e = .returned (.bool (Lib.validD T)) ∧ Below W.heap.size W w' := by
          intro W hW
          have h := Tryz.utf8_ValidString Z W (by omega) hW.utf8
          rw [← HZ.out, bs_toList] at h
          rw [← HZ.out]
          exact h
        have HVS := Lib.hid hbr
        clear hbr
        have HT4 := Lib.hid (HS4.out.text hB Z)
        obtain ⟨vd, hvd⟩ : ∃ b, Lib.validD T = b := ⟨_, rfl⟩
        rw [hvd] at HVS HGOT
        obtain ⟨b1, hb1⟩ : ∃ b, decide (1024 < T.length) = b := ⟨_, rfl⟩
        rw [hb1] at HGOT
        have h1i : decide ((1024 : Int) < Z.size) = b1 := by
          rw [← hb1, hTs]
          simp
          omega
        have H1I := Lib.hid h1i
        clear hvd hb1 h1i
        go_upto_region 14 with fail
        go_cut [82] (fun s82 wx => s82 = .bool (b1 || !vd) ∧ TextEnd B s m at_ w wx (j + n + 1) 0 Z)
        case first =>
          clear hTs
          cases b1
          · have h1i := H1I.out
            go_wp2_with fail
            refine (HVS.out _ (HE.out.gb HT4.out.grown hB12)).mono ?_
            rintro e w5 ⟨rfl, hbl5⟩
            have HT5 := Lib.hid (HT4.out.below hbl5)
            clear hbl5
            go_wp2_with fail
            go_meet
            exact ⟨rfl, HT5.out⟩
          · have h1i := H1I.out
            go_wp2_with fail
            go_meet
            exact ⟨rfl, HT4.out⟩
        case rest =>
          obtain ⟨rfl, hS⟩ := hcut
          have HT5 := Lib.hid hS
          clear hS HT4 HS4 t0 t1 t2 t3 g0 g1 g2 g3 hl1 HVS
          obtain ⟨b2, hb2⟩ : ∃ b, (b1 || !vd) = b := ⟨_, rfl⟩
          rw [hb2] at HGOT ⊢
          clear hb2
          go_upto_if 82 with fail
          go_cut [] (fun wx => TextEnd B s m at_ w wx (j + n + 1) (if b2 = true then 52 else 0) Z)
          case first =>
            obtain ⟨t0, t1, t2, t3, g0, g1, g2, g3, hl1⟩ := tok_cells HT5.out.tok
            cases b2
            · go_wp2_with fail
              go_meet
              exact HT5.out
            · go_wp2_with fail
              refine (fail_at B s (j + n + 1) m 0 at_ 52 _ HT5.out.rdr (by decide)).mono ?_
              rintro e w6 ⟨rfl, hr6, hg6⟩
              have HT6 := Lib.hid (HT5.out.gb hB hr6 hg6)
              clear hr6 hg6 t0 t1 t2 t3 g0 g1 g2 g3 hl1
              go_wp2_with fail
              go_meet
              exact HT6.out
          case rest =>
            obtain ⟨e2, he2⟩ : ∃ e2 : Int, (if b2 = true then 52 else 0) = e2 := ⟨_, rfl⟩
            rw [he2] at hcut HGOT
            have HT7 := Lib.hid hcut
            clear hcut he2 HT5
            obtain ⟨t0, t1, t2, t3, g0, g1, g2, g3, hl1⟩ := tok_cells HT7.out.tok
            obtain ⟨u0, u1, u2, u3, v0, v1, v2, v3, hl0⟩ := tok_cells HT7.out.res
            go_wp2
            refine bodyPost_ret (v := tokV 5 Z 0 at_) (by simp [results, Tryz.results24, go_sem, u0, u1, u2, u3, tokV]) rfl ?_
            obtain ⟨o1, o2⟩ := HT7.out.out hB (.int .i64 5) (.string Z) (.int .i64 0) (.int .i64 at_)
            have hul : at_ + (j + n + 1 - at_) = j + n + 1 := by omega
            have hg' := HGOT.out
            subst hg'
            refine ReadPost.of 5 Z 0 at_ rfl (fun _ => ⟨rfl, by rw [HZ.out], rfl, rfl⟩) (by dsimp only; omega) (by dsimp only; rw [hul]; exact o1) o2

/-- A text. -/
theorem text_any (B : Nat) (s : ByteArray) (at_ : Nat) (m : Nat) (w : World) (hr : Rdr w B s at_ m 0 0) (hs : s.size ≤ 2000000) (hat : at_ < s.size) (hE : Env w) (hB12 : 12 ≤ B) (g : Got) (hg : textL (s.data.toList.drop at_) = g) :
    Calls Tryz.prog 24 #[.pointer (some ⟨B, 0, none⟩)] w (ReadPost B s m at_ g w) :=
  text_core B s at_ m w hr hs hat hE hB12 g (Lib.hid hg)
end Go.Proofs.YtfhiemficfibgaaGreatDoor
