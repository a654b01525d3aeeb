/- The words of the language; two lists of tokens compared; the places left out. -/
import Derived.Test.YtfhiemficfibgaaGreatDoorA6
import Derived.Laws.StructEq
import Derived.Test.YtfhiemficfibgaaGreatDoorB4
namespace Go.Proofs.YtfhiemficfibgaaGreatDoor
open Go.RowKit

/-- The row of the words. -/
def wordRow : Array Value := (words.map fun l => Value.string ⟨l.toArray⟩).toArray

theorem words_len : words.length = 58 := by decide +kernel

theorem fields_words (sv : ByteArray) (hs : sv.data.toList = wordsText) (w : World) (hE : Env w) :
    Calls Tryz.prog 14 #[.string sv] w fun e w' => e = .returned (.slice (some ⟨w.heap.size, 0, none⟩) 58 58) ∧ w' = w.alloc (.cells wordRow 9) := by
  have hl : sv.size = wordsText.length := by rw [← hs]; simp
  have hasc : ∀ b ∈ wordsText, b.toNat < 128 := by decide +kernel
  have hlen : wordsText.length < 4294967281 := by decide +kernel
  refine (Tryz.strings_Fields_laid sv w (by rw [hl]; exact hlen) (fun j b h => hasc b (by rw [hs] at h; exact List.mem_of_getElem? h)) hE.space).mono ?_
  rintro e w' ⟨rfl, rfl⟩
  rw [hs]
  have h58 : (Lib.fields wordsText).length = 58 := words_len
  rw [h58]
  exact ⟨rfl, rfl⟩

set_option maxRecDepth 100000 in
set_option maxHeartbeats 1000000 in
theorem words_any (w : World) (hE : Env w) :
    Calls Tryz.prog 10 #[] w fun e w' => e = .returned (.slice (some ⟨w.heap.size, 0, none⟩) 58 58) ∧ w' = w.alloc (.cells wordRow 9) := by
  go_enter Tryz.func10, Tryz.ntmps10
  go_wp2_with fail
  refine (fields_words _ (by decide +kernel) w hE).mono ?_
  rintro e w' ⟨rfl, rfl⟩
  go_wp2
  refine bodyPost_ret (v := .slice (some ⟨w.heap.size, 0, none⟩) 58 58) (by simp [results, Tryz.results10, go_sem]) rfl ?_
  exact ⟨rfl, rfl⟩

/-- The cells of some tokens. -/
def tkC (t : Tk) : List Value := [.int .i64 t.kind, .string (bs t.text), .int .i64 t.n, .int .i64 t.at_]
def tkCs (l : List Tk) : List Value := (l.map tkC).flatten

/-- A slice of tokens, at its place. -/
def Toks (w : World) (v : Value) (l : List Tk) : Prop :=
  (v = .slice none 0 0 ∧ l = []) ∨ ∃ g off cap, v = .slice (some ⟨g, off, none⟩) l.length cap ∧ l.length ≤ cap ∧ g < w.heap.size ∧ ∀ (i : Nat) (t : Tk), l[i]? = some t →
    w.cell? ⟨g, off + i * 4, none⟩ = some (.int .i64 t.kind) ∧ w.cell? ⟨g, off + i * 4 + 1, none⟩ = some (.string (bs t.text)) ∧ w.cell? ⟨g, off + i * 4 + 2, none⟩ = some (.int .i64 t.n) ∧ w.cell? ⟨g, off + i * 4 + 3, none⟩ = some (.int .i64 t.at_)

theorem Toks.below {w w' : World} {v : Value} {l : List Tk} (h : Toks w v l) (hb : Below w.heap.size w w') : Toks w' v l := by
  rcases h with h | ⟨g, off, cap, hv, hc, hg, hcell⟩
  · exact .inl h
  · refine .inr ⟨g, off, cap, hv, hc, Nat.lt_of_lt_of_le hg hb.size, fun i t ht => ?_⟩
    have := hcell i t ht
    have hk : ∀ j, w'.cell? ⟨g, j, none⟩ = w.cell? ⟨g, j, none⟩ := fun j => World.cell?_of_block (w := w) (w' := w') (a := ⟨g, j, none⟩) (hb.block g hg)
    rw [hk, hk, hk, hk]
    exact this
theorem Toks.nil (w : World) : Toks w (.slice none 0 0) [] := .inl ⟨rfl, rfl⟩
theorem Toks.len {w : World} {v : Value} {l : List Tk} (h : Toks w v l) : ∃ a cap, v = .slice a l.length cap := by
  rcases h with ⟨rfl, rfl⟩ | ⟨g, off, cap, hv, _⟩
  · exact ⟨_, _, rfl⟩
  · exact ⟨_, _, hv⟩

/-- A token as one value. -/
def tkVal (t : Tk) : Value := .agg #[.int .i64 t.kind, .string (bs t.text), .int .i64 t.n, .int .i64 t.at_]
theorem bs_inj (a b : Bytes) : bs a = bs b ↔ a = b :=
  ⟨fun h => by rw [← bs_toList a, h, bs_toList], fun h => by rw [h]⟩
theorem bs_list (a : Bytes) : (bs a).toList = a := by rw [ByteArray.toList_eq, bs_toList]
theorem tk_guard (op : BinOp) (x y : Operand) (xs ys : Array Value) (w : World) : (eqGuard op 28 x y (.agg xs) (.agg ys)).run Tryz.prog w = .ok () w := run_eqGuard_agg w op 28 x y xs ys (by kernel_rfl)
theorem tk_equal (t1 t2 : Tk) (w : World) : (Op.equalIn 10000 28 (tkVal t1) (tkVal t2)).run Tryz.prog w = .ok (decide (t1 = t2)) w := by
  have u3 := Tryz.underlying3
  have a3 := Tryz.isAgg3
  have z3 := Tryz.sizeOf3
  have u9 := Tryz.underlying9
  have a9 := Tryz.isAgg9
  have z9 := Tryz.sizeOf9
  have hS : Tryz.prog.underlying 28 = some (.struct (Tryz.prog.fieldsOf 28)) := by kernel_rfl
  have hp : Tryz.prog.stoodInHeld 28 = false := by kernel_rfl
  unfold tkVal
  rw [show (10000 : Nat) = 9999 + 1 from rfl, run_equalIn_agg w 9999 28 _ _ hS hp]
  simp only [Program.fieldsOf, Tryz.underlying28]
  obtain ⟨k1, x1, n1, p1⟩ := t1
  obtain ⟨k2, x2, n2, p2⟩ := t2
  simp only
  have hdec : decide (Tk.mk k1 x1 n1 p1 = Tk.mk k2 x2 n2 p2) = (k1 == k2 && (decide (x1 = x2) && (n1 == n2 && decide (p1 = p2)))) := by
    rw [Bool.eq_iff_iff]
    simp
  rw [hdec]
  go_simp
  by_cases h1 : k1 = k2 <;> by_cases h2 : x1 = x2 <;> by_cases h3 : n1 = n2 <;> by_cases h4 : p1 = p2 <;> simp [h1, h2, h3, h4, bs_list, Int.natCast_inj]
theorem tk_neq (t1 t2 : Tk) (w : World) : (binOp .neq 28 (tkVal t1) (tkVal t2)).run Tryz.prog w = .ok (.bool (!decide (t1 = t2))) w := by
  have := tk_equal t1 t2 w
  unfold tkVal at this ⊢
  rw [run_neq_struct, this]
  rfl
theorem tk_eql (t1 t2 : Tk) (w : World) : (binOp .eql 28 (tkVal t1) (tkVal t2)).run Tryz.prog w = .ok (.bool (decide (t1 = t2))) w := by
  have := tk_equal t1 t2 w
  unfold tkVal at this ⊢
  rw [run_eql_struct, this]
  rfl

set_option maxRecDepth 100000 in
set_option maxHeartbeats 1000000 in
theorem same_any (w : World) (v1 v2 : Value) (l1 l2 : List Tk) (h1 : Toks w v1 l1) (h2 : Toks w v2 l2) (hl1 : l1.length ≤ 4000000) :
    Calls Tryz.prog 8 #[v1, v2] w fun e w' => e = .returned (.bool (decide (l1 = l2))) ∧ ∃ m, w' = w.drewN m := by
  obtain ⟨a1, k1, rfl⟩ := h1.len
  obtain ⟨a2, k2, rfl⟩ := h2.len
  have H1 := Lib.hid h1
  have H2 := Lib.hid h2
  clear h1 h2
  go_enter Tryz.func8, Tryz.ntmps8
  by_cases hl : l1.length = l2.length
  · have hd : ((l1.length : Int) != l2.length) = false := by simp [hl]
    go_wp2
    rw [← hl] at H2 ⊢
    have HL := Lib.hid hl
    clear hl hd
    go_loopg [5] (l1.length + 1) (fun k v5 wr => ∃ i : Nat, i + k = l1.length + 1 ∧ i ≤ l1.length ∧ v5 = .int .i64 i ∧ l1.take i = l2.take i ∧ ∃ m, wr = w.drewN m)
    case atStart => exact ⟨0, by omega, by omega, rfl, rfl, 0, rfl⟩
    case round =>
      obtain ⟨i, hk, hi, rfl, htk, m, rfl⟩ := hrel
      by_cases he : i = l1.length
      · have hd : decide ((i : Int) < l1.length) = false := by simp; omega
        have heq : decide (l1 = l2) = true := by
          have h2 : l2.take l1.length = l2 := by rw [HL.out, List.take_length]
          rw [he, List.take_length, h2] at htk
          simpa using htk
        go_wp2
        refine bodyPost_ret (v := .bool true) (by simp [results, Tryz.results8, go_sem]) rfl ?_
        exact ⟨by rw [heq], m, rfl⟩
      · have hd : decide ((i : Int) < l1.length) = true := by simp; omega
        obtain ⟨t1, ht1⟩ : ∃ t, l1[i]? = some t := ⟨_, List.getElem?_eq_getElem (by omega)⟩
        obtain ⟨t2, ht2⟩ : ∃ t, l2[i]? = some t := ⟨_, List.getElem?_eq_getElem (by rw [← HL.out]; omega)⟩
        rcases H1.out with ⟨_, h⟩ | ⟨g1, o1, c1, hv1, hc1, hg1, hcell1⟩
        · rw [h] at ht1; simp at ht1
        rcases H2.out with ⟨_, h⟩ | ⟨g2, o2, c2, hv2, hc2, hg2, hcell2⟩
        · rw [h] at ht2; simp at ht2
        injection hv1 with e1 e2 e3
        injection hv2 with e4 e9 e5
        clear e2 e9
        subst e1 e3 e4 e5
        obtain ⟨p0, p1, p2, p3⟩ := hcell1 i t1 ht1
        obtain ⟨q0, q1, q2, q3⟩ := hcell2 i t2 ht2
        have e5 : ((i : Nat) : Int).toNat = i := by omega
        have e6 : (0 : Int) ≤ i := by omega
        have e7 : (i : Int) < l1.length := by omega
        have e8 : i < l1.length := by omega
        have T1 := Lib.hid ht1
        have T2 := Lib.hid ht2
        have TK := Lib.hid htk
        clear hcell1 hcell2 ht1 ht2 htk
        obtain ⟨b, hb⟩ : ∃ b, decide (t1 = t2) = b := ⟨_, rfl⟩
        have hneq := tk_neq t1 t2
        have hgrd := tk_guard .neq (.tmp 20) (.tmp 24)
        rw [hb] at hneq
        unfold tkVal at hneq
        have HB := Lib.hid hb
        have HK := Lib.hid hk
        clear hb hk
        cases b
        · go_wp2
          go_quiet (fail)
          go_wp2
          refine bodyPost_ret (v := .bool false) (by simp [results, Tryz.results8, go_sem]) rfl ?_
          have hne : decide (l1 = l2) = false := by
            have hb := HB.out
            simp at hb ⊢
            intro h
            apply hb
            have := T1.out
            rw [h, T2.out] at this
            injection this with this
            exact this.symm
          exact ⟨by rw [hne], m + nq, by first | rfl | rw [World.drewN_drewN]⟩
        · go_wp2
          go_quiet (fail)
          go_wp2
          go_roundg (gk - 1)
          case measure => have := HK.out; omega
          case rel =>
            refine ⟨i + 1, by have := HK.out; omega, by omega, by rfl, ?_, m + nq, by first | rfl | rw [World.drewN_drewN]⟩
            have h1 := T1.out
            have h2 := T2.out
            have hb : t1 = t2 := by simpa using HB.out
            rw [List.take_add_one, List.take_add_one, TK.out, h1, h2, hb]
  · have hd : ((l1.length : Int) != l2.length) = true := by simp; omega
    have hne : decide (l1 = l2) = false := by
      simp
      intro h
      exact hl (by rw [h])
    go_wp2
    refine bodyPost_ret (v := .bool false) (by simp [results, Tryz.results8, go_sem]) rfl ?_
    exact ⟨by rw [hne], 0, rfl⟩

theorem info28 : (Tryz.prog.info? 28).map (fun i => (i.zero, i.size, i.bytes)) = some (some (.agg #[.int .i64 0, .string (bs []), .int .i64 0, .int .i64 0]), 4, 40) := by kernel_rfl
theorem own_gb {w w' : World} {base : Nat} {e : TypeId} {size : Nat} {v : Value} {n : Nat} {xs : List Value} (h : w.ownsRow base e size v n xs) (hg : w.grownBy w' none) : w'.ownsRow base e size v n xs :=
  h.kept hg (by cases hv : v.ownBlock <;> simp)
theorem tkCs_length (l : List Tk) : (tkCs l).length = l.length * 4 := by
  unfold tkCs
  induction l with
  | nil => rfl
  | cons t l ih => simp only [List.map_cons, List.flatten_cons, List.length_append, List.length_cons, ih, tkC]; simp; omega
theorem tkCs_append (l1 l2 : List Tk) : tkCs (l1 ++ l2) = tkCs l1 ++ tkCs l2 := by simp [tkCs]
theorem tkCs_at : ∀ (l : List Tk) (i j : Nat) (t : Tk), l[i]? = some t → j < 4 → (tkCs l)[i * 4 + j]? = (tkC t)[j]?
  | [], i, _, _, h, _ => by simp at h
  | t0 :: l, 0, j, t, h, hj => by
    simp at h
    subst h
    show ((tkC t0) ++ tkCs l)[0 * 4 + j]? = _
    rw [Nat.zero_mul, Nat.zero_add, List.getElem?_append_left (by simpa [tkC] using hj)]
  | t0 :: l, i + 1, j, t, h, hj => by
    show ((tkC t0) ++ tkCs l)[(i + 1) * 4 + j]? = _
    have e : (tkC t0).length = 4 := rfl
    rw [List.getElem?_append_right (by rw [e]; omega), e, show (i + 1) * 4 + j - 4 = i * 4 + j from by omega]
    exact tkCs_at l i j t (by simpa using h) hj
/-- What is owned is a slice of tokens. -/
theorem Toks.own {w : World} {base : Nat} {v : Value} {l : List Tk} (h : w.ownsRow base 28 4 v l.length (tkCs l)) : Toks w v l := by
  rcases h.2 with ⟨hv, hn⟩ | ⟨g, cap, cur, hv, hb, hg, hcap, _, hsz, htk⟩
  · exact .inl ⟨hv, List.length_eq_zero_iff.1 hn⟩
  · refine .inr ⟨g, 0, cap, hv, hcap, (Array.getElem?_eq_some_iff.1 hg).1, fun i t ht => ?_⟩
    have hi : i < l.length := (List.getElem?_eq_some_iff.1 ht).1
    have key : ∀ j, j < 4 → ∀ v, (tkC t)[j]? = some v → w.cell? ⟨g, 0 + i * 4 + j, none⟩ = some v := by
      intro j hj v hv
      have h1 := tkCs_at l i j t ht hj
      rw [hv, ← htk, List.getElem?_take_of_lt (by omega)] at h1
      rw [cell_of_row w g (0 + i * 4 + j) cur 28 (0, 0) hg, Nat.zero_add]
      simpa using h1
    exact ⟨key 0 (by omega) _ rfl, key 1 (by omega) _ rfl, key 2 (by omega) _ rfl, key 3 (by omega) _ rfl⟩
/-- A rest of a slice of tokens. -/
theorem Toks.drop {w : World} {g off cap : Nat} {l : List Tk} (h : Toks w (.slice (some ⟨g, off, none⟩) l.length cap) l) (i : Nat) (hi : i ≤ l.length) : Toks w (.slice (some ⟨g, off + i * 4, none⟩) (l.length - i) (cap - i)) (l.drop i) := by
  rcases h with ⟨h, _⟩ | ⟨g', off', cap', hv, hc, hg, hcell⟩
  · exact absurd h (by simp)
  · injection hv with e1 e2 e3
    injection e1 with e1
    injection e1 with e4 e5 e6
    subst e3 e4 e5
    refine .inr ⟨g, off + i * 4, cap - i, by rw [List.length_drop], by rw [List.length_drop]; omega, hg, fun j t ht => ?_⟩
    rw [List.getElem?_drop] at ht
    have := hcell (i + j) t ht
    rw [show off + (i + j) * 4 = off + i * 4 + j * 4 from by omega] at this
    exact this
theorem news_tok {W : World} {k : Nat} (t : Tk) (h : Blk W k (tkC t).toArray 28) : ∀ j u, (tkC t)[j]? = some u → W.cell? ((⟨k, 0, none⟩ : Addr).add j) = some u := by
  intro j u hu
  have hadd : (⟨k, 0, none⟩ : Addr).add j = ⟨k, j, none⟩ := by unfold Addr.add; split <;> simp_all
  rw [hadd]
  exact h.cell j (by simpa using hu)
theorem one_tok (t : Tk) : ∀ u ∈ tkC t, u.oneCell' = true := by
  intro u hu
  simp only [tkC, List.mem_cons, List.not_mem_nil, or_false] at hu
  rcases hu with rfl | rfl | rfl | rfl <;> rfl

set_option maxRecDepth 100000 in
set_option maxHeartbeats 1000000 in
theorem bare_any (w : World) (v1 : Value) (l : List Tk) (h1 : Toks w v1 l) (hl1 : l.length ≤ 4000000) :
    Calls Tryz.prog 9 #[v1] w fun e w' => ∃ v, e = .returned v ∧ Toks w' v (l.map bareT) ∧ Below w.heap.size w w' := by
  obtain ⟨a1, k1, rfl⟩ := h1.len
  have H1 := Lib.hid h1
  clear h1
  obtain ⟨i0, hi, hz0, hz1, hz2⟩ := info_parts info28
  go_enter Tryz.func9, Tryz.ntmps9
  go_wp2
  go_loopg [3, 4] (l.length + 1) (fun k v3 v4 wr => ∃ i : Nat, i + k = l.length + 1 ∧ i ≤ l.length ∧ v4 = .int .i64 i ∧ wr.ownsRow w.heap.size 28 4 v3 ((l.take i).map bareT).length (tkCs ((l.take i).map bareT)) ∧ Below w.heap.size w wr)
  case atStart => exact ⟨0, by omega, by omega, rfl, World.ownsRow_nil _ _ _ _, Below.refl _ _⟩
  case round =>
    obtain ⟨i, hk, hi', rfl, hown, hbel⟩ := hrel
    by_cases he : i = l.length
    · have hd : decide ((i : Int) < l.length) = false := by simp; omega
      rw [he, List.take_length] at hown
      have HO := Lib.hid hown
      clear hown
      go_wp2
      refine bodyPost_ret (v := u3) (by simp [results, Tryz.results9, go_sem]) rfl ?_
      exact ⟨_, rfl, Toks.own HO.out, hbel⟩
    · have hd : decide ((i : Int) < l.length) = true := by simp; omega
      obtain ⟨t1, ht1⟩ : ∃ t, l[i]? = some t := ⟨_, List.getElem?_eq_getElem (by omega)⟩
      have H2 := H1.out.below hbel
      rcases H2 with ⟨_, h⟩ | ⟨g1, o1, c1, hv1, hc1, hg1, hcell1⟩
      · rw [h] at ht1; simp at ht1
      injection hv1 with e1 e2 e3
      clear e2
      subst e1 e3
      obtain ⟨p0, p1, p2, p3⟩ := hcell1 i t1 ht1
      have e5 : ((i : Nat) : Int).toNat = i := by omega
      have e6 : (0 : Int) ≤ i := by omega
      have e7 : (i : Int) < l.length := by omega
      have e8 : i < l.length := by omega
      have T1 := Lib.hid ht1
      obtain ⟨L0, hL0⟩ : ∃ L0, (l.take i).map bareT = L0 := ⟨_, rfl⟩
      rw [hL0] at hown
      have hn0 : L0.length ≤ 4000000 := by rw [← hL0]; simp; omega
      have HN : Hid (L0.length + 1 ≤ maxLen ∧ (L0.length + 1) * 40 ≤ 140737488355328) := Lib.hid ⟨by simp only [maxLen]; omega, by omega⟩
      have HL0 := Lib.hid hL0
      have HO := Lib.hid hown
      have HK := Lib.hid hk
      have HBE := Lib.hid hbel
      clear hcell1 ht1 hown hk hbel hL0 hn0
      go_wp2_with (at_builtin; refine wpList_append_own _ rfl _ _ 22 rfl w.heap.size 28 i0 (.agg #[.int .i64 0, .string (bs []), .int .i64 0, .int .i64 0]) 4 40 Tryz.underlying22 hi hz0 hz1 hz2 rfl (by decide) _ _ _ rfl (own_gb HO.out (gb_alloc (gb_alloc (gb_refl _ _) _) _)) ⟨wr.heap.size + 1, 0, none⟩ 1 1 (tkC (bareT t1)) rfl rfl (news_tok (bareT t1) (Blk.new2 _ _ _ _)) (one_tok _) HN.out.1 HN.out.2 (by simp only [size_alloc]; have := HBE.out.size; omega) ?_)
      intro v' w' hown' hgrow _
      have hb2 : Below w.heap.size w w' := below_gb ((HBE.out.alloc HBE.out.size _).alloc (by rw [size_alloc]; have := HBE.out.size; omega) _) hgrow (by simp only [size_alloc]; have := HBE.out.size; omega) (fun j hj => (HO.out.lt j hj).1)
      have HO' := Lib.hid hown'
      have HB2 := Lib.hid hb2
      clear hown' hgrow hb2 HO p0 p1 p2 p3
      go_wp2
      go_roundg (gk - 1)
      case measure => have := HK.out; omega
      case rel =>
        refine ⟨i + 1, by have := HK.out; omega, by omega, by rfl, ?_, HB2.out⟩
        have e9 : (l.take (i + 1)).map bareT = (l.take i).map bareT ++ [bareT t1] := by rw [List.take_add_one, T1.out]; simp
        rw [e9, tkCs_append, HL0.out, List.length_append]
        have e10 : tkCs [bareT t1] = tkC (bareT t1) := by simp [tkCs]
        rw [e10]
        exact HO'.out
end Go.Proofs.YtfhiemficfibgaaGreatDoor
