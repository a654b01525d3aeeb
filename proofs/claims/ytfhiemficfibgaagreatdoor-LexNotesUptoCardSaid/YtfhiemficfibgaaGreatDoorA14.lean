/- A token's text; tokens as a source; the wake. -/
import Derived.Test.YtfhiemficfibgaaGreatDoorA13
import Derived.Lib.AppendIntMem
import Derived.Lib.ItoaLen
namespace Go.Proofs.YtfhiemficfibgaaGreatDoor
open Go.RowKit

set_option maxRecDepth 100000 in
set_option maxHeartbeats 1000000 in
theorem eq_any (w : World) (v1 v2 : Value) (l1 l2 : List Tk) (h1 : Toks w v1 l1) (h2 : Toks w v2 l2) (hl1 : l1.length ≤ 4000000) :
    Calls Tryz.prog 27 #[v1, v2] w fun e w' => e = .returned (.bool (decide (l1 = l2))) ∧ ∃ m, w' = w.drewN m := by
  obtain ⟨a1, k1, rfl⟩ := h1.len
  obtain ⟨a2, k2, rfl⟩ := h2.len
  have H1 := Lib.hid h1
  have H2 := Lib.hid h2
  clear h1 h2
  go_enter Tryz.func27, Tryz.ntmps27
  by_cases hl : l1.length = l2.length
  · have hd : ((l1.length : Int) != l2.length) = false := by simp [hl]
    go_wp2
    rw [← hl] at H2 ⊢
    have HL := Lib.hid hl
    clear hl hd
    go_loopg [13] (l1.length + 1) (fun k v5 wr => ∃ i : Nat, i + k = l1.length + 1 ∧ i ≤ l1.length ∧ v5 = .int .i64 i ∧ l1.take i = l2.take i ∧ ∃ m, wr = w.drewN m)
    case atStart => exact ⟨0, by omega, by omega, rfl, rfl, 0, rfl⟩
    case round =>
      obtain ⟨i, hk, hi, rfl, htk, m, rfl⟩ := hrel
      by_cases he : i = l1.length
      · have hd : decide ((i : Int) < l1.length) = false := by simp; omega
        have heq : decide (l1 = l2) = true := by
          have h2 : l2.take l1.length = l2 := by rw [HL.out, List.take_length]
          rw [he, List.take_length, h2] at htk
          simpa using htk
        go_wp2
        refine bodyPost_ret (v := .bool true) (by simp [results, Tryz.results27, go_sem]) rfl ?_
        exact ⟨by rw [heq], m, rfl⟩
      · have hd : decide ((i : Int) < l1.length) = true := by simp; omega
        obtain ⟨t1, ht1⟩ : ∃ t, l1[i]? = some t := ⟨_, List.getElem?_eq_getElem (by omega)⟩
        obtain ⟨t2, ht2⟩ : ∃ t, l2[i]? = some t := ⟨_, List.getElem?_eq_getElem (by rw [← HL.out]; omega)⟩
        rcases H1.out with ⟨_, h⟩ | ⟨g1, o1, c1, hv1, hc1, hg1, hcell1⟩
        · rw [h] at ht1; simp at ht1
        rcases H2.out with ⟨_, h⟩ | ⟨g2, o2, c2, hv2, hc2, hg2, hcell2⟩
        · rw [h] at ht2; simp at ht2
        injection hv1 with e1 e2 e3
        injection hv2 with e4 e9 e5
        clear e2 e9
        subst e1 e3 e4 e5
        obtain ⟨p0, p1, p2, p3⟩ := hcell1 i t1 ht1
        obtain ⟨q0, q1, q2, q3⟩ := hcell2 i t2 ht2
        have e5 : ((i : Nat) : Int).toNat = i := by omega
        have e6 : (0 : Int) ≤ i := by omega
        have e7 : (i : Int) < l1.length := by omega
        have e8 : i < l1.length := by omega
        have T1 := Lib.hid ht1
        have T2 := Lib.hid ht2
        have TK := Lib.hid htk
        clear hcell1 hcell2 ht1 ht2 htk
        obtain ⟨b, hb⟩ : ∃ b, decide (t1 = t2) = b := ⟨_, rfl⟩
        have hneq := tk_neq t1 t2
        have hgrd := tk_guard .neq (.tmp 19) (.tmp 23)
        rw [hb] at hneq
        unfold tkVal at hneq
        have HB := Lib.hid hb
        have HK := Lib.hid hk
        clear hb hk
        cases b
        · go_wp2
          go_quiet (fail)
          go_wp2
          refine bodyPost_ret (v := .bool false) (by simp [results, Tryz.results27, go_sem]) rfl ?_
          have hne : decide (l1 = l2) = false := by
            have hb := HB.out
            simp at hb ⊢
            intro h
            apply hb
            have := T1.out
            rw [h, T2.out] at this
            injection this with this
            exact this.symm
          exact ⟨by rw [hne], m + nq, by first | rfl | rw [World.drewN_drewN]⟩
        · go_wp2
          go_quiet (fail)
          go_wp2
          go_roundg (gk - 1)
          case measure => have := HK.out; omega
          case rel =>
            refine ⟨i + 1, by have := HK.out; omega, by omega, by rfl, ?_, m + nq, by first | rfl | rw [World.drewN_drewN]⟩
            have h1 := T1.out
            have h2 := T2.out
            have hb : t1 = t2 := by simpa using HB.out
            rw [List.take_add_one, List.take_add_one, TK.out, h1, h2, hb]
  · have hd : ((l1.length : Int) != l2.length) = true := by simp; omega
    have hne : decide (l1 = l2) = false := by
      simp
      intro h
      exact hl (by rw [h])
    go_wp2
    refine bodyPost_ret (v := .bool false) (by simp [results, Tryz.results27, go_sem]) rfl ?_
    exact ⟨by rw [hne], 0, rfl⟩

theorem bs_append2 (a b : Bytes) : (⟨a.toArray⟩ : ByteArray) ++ ⟨b.toArray⟩ = bs (a ++ b) := by
  have h : ((⟨a.toArray⟩ : ByteArray) ++ ⟨b.toArray⟩).data.toList = a ++ b := by simp
  rw [← bs_of ((⟨a.toArray⟩ : ByteArray) ++ ⟨b.toArray⟩), h]
/-- A token's text. -/
def shownL (t : Tk) : Bytes := if t.kind = 7 then Lib.itoa t.n ++ [109, 115] else t.text

set_option maxRecDepth 100000 in
set_option maxHeartbeats 1000000 in
theorem shown_any (w : World) (t : Tk) (hE : Env w) (hk : t.kind = 1 ∨ t.kind = 2 ∨ t.kind = 6 ∨ t.kind = 7) (h0 : 0 ≤ t.n) (h1 : t.n ≤ 1000000000000) :
    Calls Tryz.prog 26 #[tkVal t] w fun e w' => e = .returned (.string (bs (shownL t))) ∧ Below w.heap.size w w' := by
  have HE := Lib.hid hE
  clear hE
  obtain ⟨k, tx, n, a⟩ := t
  simp only at hk h0 h1
  unfold tkVal
  go_enter Tryz.func26, Tryz.ntmps26
  rcases hk with rfl | rfl | rfl | rfl
  · go_wp2
    refine bodyPost_ret (v := .string (bs tx)) (by simp [results, Tryz.results26, go_sem]) rfl ?_
    exact ⟨by simp [shownL], (Below.refl _ _).alloc (Nat.le_refl _) _⟩
  · go_wp2
    refine bodyPost_ret (v := .string (bs tx)) (by simp [results, Tryz.results26, go_sem]) rfl ?_
    exact ⟨by simp [shownL], (Below.refl _ _).alloc (Nat.le_refl _) _⟩
  · go_wp2
    refine bodyPost_ret (v := .string (bs tx)) (by simp [results, Tryz.results26, go_sem]) rfl ?_
    exact ⟨by simp [shownL], (Below.refl _ _).alloc (Nat.le_refl _) _⟩
  · go_wp2_with fail
    refine (Tryz.strconv_Itoa n (by omega) (by omega) _ (HE.out.alloc _).pow10).mono ?_
    rintro e w2 ⟨rfl, k, os, hw2⟩
    have hb : Below w.heap.size w w2 := by
      rw [hw2]
      exact ((Below.refl _ _).alloc (Nat.le_refl _) _).trans (Lib.below_grow _ _ (by rw [size_alloc]; omega) k os)
    have hap : (⟨(Lib.itoa n).toArray⟩ : ByteArray) ++ ⟨#[109, 115]⟩ = bs (Lib.itoa n ++ [109, 115]) := by
      exact bs_append2 (Lib.itoa n) [109, 115]
    clear hw2
    have hlen := Lib.itoa_length_le n (by omega) (by omega)
    have hlt : ¬ (9223372036854775807 < (Lib.itoa n).length + 2) := by omega
    clear hlen
    go_wp2
    refine bodyPost_ret (v := .string (bs (Lib.itoa n ++ [109, 115]))) (by simp [results, Tryz.results26, go_sem]) rfl ?_
    exact ⟨by simp [shownL], hb⟩

theorem info9 : (Tryz.prog.info? 9).map (fun i => (i.zero, i.size, i.bytes)) = some (some (.string ⟨#[]⟩), 1, 16) := by kernel_rfl
/-- A token that is shown and read back. -/
def Good (t : Tk) : Prop := (t.kind = 1 ∨ t.kind = 2 ∨ t.kind = 6 ∨ t.kind = 7) ∧ 0 ≤ t.n ∧ t.n ≤ 1000000000000 ∧ (shownL t).length ≤ 1000000 ∧ LX words (shownL t) 0 = .ok [bareT t]
theorem Toks.one {W : World} {k : Nat} {t : Tk} (h : Blk W k (tkC t).toArray 28) : Toks W (.slice (some ⟨k, 0, none⟩) 1 1) [t] := by
  refine .inr ⟨k, 0, 1, rfl, by simp, h.lt, fun i t' ht => ?_⟩
  have hi : i = 0 := by
    have := (List.getElem?_eq_some_iff.1 ht).1
    simpa using this
  subst hi
  simp at ht
  subst ht
  exact ⟨h.cell 0 rfl, h.cell 1 rfl, h.cell 2 rfl, h.cell 3 rfl⟩
theorem own_fresh {w : World} {base : Nat} {e : TypeId} {size : Nat} {v : Value} {n : Nat} {xs : List Value} (h : w.ownsRow base e size v n xs) : v.ownBlock = none ∨ v.ownBlock ≠ some w.heap.size := by
  cases hv : v.ownBlock with
  | none => exact .inl rfl
  | some g =>
    refine .inr fun hc => ?_
    injection hc with hc
    have := (h.lt g hv).2
    omega
theorem Blk.new2d (w : World) (o : Obj) (m : Nat) (cs : Array Value) (T : TypeId) : Blk (((w.alloc o).drewN m).alloc (.cells cs T)) (w.heap.size + 1) cs T := ⟨by
  have := heap_alloc_new ((w.alloc o).drewN m) (.cells cs T)
  simp only [size_dn, size_alloc] at this
  exact this⟩
def strC (t : Tk) : Value := .string (bs (shownL t))
theorem news_str {W : World} {k : Nat} (s : ByteArray) (h : Blk W k #[.string s] 9) : ∀ j u, [Value.string s][j]? = some u → W.cell? ((⟨k, 0, none⟩ : Addr).add j) = some u := by
  intro j u hu
  have hadd : (⟨k, 0, none⟩ : Addr).add j = ⟨k, j, none⟩ := by unfold Addr.add; split <;> simp_all
  rw [hadd]
  exact h.cell j (by simpa using hu)

set_option maxRecDepth 100000 in
set_option maxHeartbeats 4000000 in
theorem show_any (w : World) (v1 : Value) (l : List Tk) (hE : Env w) (h1 : Toks w v1 l) (hl1 : l.length ≤ 4000000) (hgood : ∀ t ∈ l, Good t) (hj : (Lib.join (l.map shownL) [32]).length ≤ 140737488355328) (hne : l ≠ []) :
    Calls Tryz.prog 13 #[v1] w fun e w' => e = .returned (.string (bs (Lib.join (l.map shownL) [32]))) ∧ Below w.heap.size w w' := by
  obtain ⟨a1, k1, rfl⟩ := h1.len
  have H1 := Lib.hid h1
  have HE := Lib.hid hE
  have HG := Lib.hid hgood
  have HJ := Lib.hid hj
  clear h1 hE hgood hj
  obtain ⟨i0, hi, hz0, hz1, hz2⟩ := info_parts info9
  go_enter Tryz.func13, Tryz.ntmps13
  go_wp2
  go_loopg [3, 12] (l.length + 1) (fun k v3 v4 wr => ∃ i : Nat, i + k = l.length + 1 ∧ i ≤ l.length ∧ v4 = .int .i64 i ∧ wr.ownsRow w.heap.size 9 1 v3 i ((l.take i).map strC) ∧ Below w.heap.size w wr)
  case atStart => exact ⟨0, by omega, by omega, rfl, World.ownsRow_nil _ _ _ _, Below.refl _ _⟩
  case round =>
    obtain ⟨i, hk, hi', rfl, hown, hbel⟩ := hrel
    by_cases he : i = l.length
    · have hd : decide ((i : Int) < l.length) = false := by simp; omega
      rw [he, List.take_length] at hown
      have HO := Lib.hid hown
      have HBE := Lib.hid hbel
      clear hown hbel
      go_wp2_with fail
      rcases HO.out.2 with ⟨_, hn⟩ | ⟨g, cap, cur, hv, hbg, hgg, hcap, _, hcs, htk⟩
      · exact absurd (List.length_eq_zero_iff.1 hn) hne
      have hlt : g < wr.heap.size := (Array.getElem?_eq_some_iff.1 hgg).1
      subst hv
      have hcell : ∀ (j : Nat) x, (l.map fun t => bs (shownL t))[j]? = some x → wr.cell? ⟨g, 0 + j, none⟩ = some (.string x) := by
        intro j x hx
        have hj : j < l.length := by
          have := (List.getElem?_eq_some_iff.1 hx).1
          simpa using this
        rw [cell_of_row wr g (0 + j) cur 9 (0, 0) hgg, Nat.zero_add]
        have h2 : (l.map strC)[j]? = some (.string x) := by
          rw [List.getElem?_map] at hx ⊢
          cases ho : l[j]? with
          | none => rw [ho] at hx; simp at hx
          | some t =>
            rw [ho] at hx
            simp at hx
            rw [← hx]
            rfl
        rw [← htk, List.getElem?_take_of_lt (by omega)] at h2
        simpa using h2
      have hmm : (l.map fun t => bs (shownL t)).map (·.data.toList) = l.map shownL := by
        rw [List.map_map]
        congr 1
        try (funext t; exact bs_toList _)
      have HJ2 := Tryz.strings_Join g 0 cap (l.map fun t => bs (shownL t)) ⟨#[32]⟩ wr hcell hlt (by simp; omega) (by simp; omega) (by rw [hmm]; exact HJ.out)
      rw [hmm, List.length_map] at HJ2
      refine HJ2.mono ?_
      rintro e w2 ⟨rfl, hb2⟩
      have HB2 := Lib.hid (HBE.out.trans (hb2.mono HBE.out.size))
      clear HJ2 hb2 hcell hgg htk
      go_wp2
      refine bodyPost_ret (v := .string (bs (Lib.join (l.map shownL) [32]))) (by simp [results, Tryz.results13, go_sem, bs]) rfl ?_
      exact ⟨rfl, HB2.out⟩
    · have hd : decide ((i : Int) < l.length) = true := by simp; omega
      obtain ⟨t, ht1⟩ : ∃ t, l[i]? = some t := ⟨_, List.getElem?_eq_getElem (by omega)⟩
      obtain ⟨hg1, hg2, hg3, hg4, hg5⟩ := HG.out t (List.mem_of_getElem? ht1)
      have H2 := H1.out.below hbel
      rcases H2 with ⟨_, h⟩ | ⟨g1, o1, c1, hv1, hc1, hlt1, hcell1⟩
      · rw [h] at ht1; simp at ht1
      injection hv1 with e1 e2 e3
      clear e2
      subst e1 e3
      obtain ⟨p0, p1, p2, p3⟩ := hcell1 i t ht1
      have e5 : ((i : Nat) : Int).toNat = i := by omega
      have e6 : (0 : Int) ≤ i := by omega
      have e7 : (i : Int) < l.length := by omega
      have e8 : i < l.length := by omega
      have T1 := Lib.hid ht1
      have HO := Lib.hid hown
      have HK := Lib.hid hk
      have HBE := Lib.hid hbel
      have HEr := Lib.hid (HE.out.below hbel)
      have HG5 := Lib.hid hg5
      have HG1 := Lib.hid hg1
      have HN : Hid (i + 1 ≤ maxLen ∧ (i + 1) * 16 ≤ 140737488355328) := Lib.hid ⟨by simp only [maxLen]; omega, by omega⟩
      obtain ⟨sh, hsh⟩ : ∃ sh, shownL t = sh := ⟨_, rfl⟩
      have HSH := Lib.hid hsh
      clear hcell1 ht1 hown hk hbel hg1 hg5 hsh
      go_wp2_with fail
      refine (shown_any _ t (HEr.out.alloc _) HG1.out hg2 hg3).mono ?_
      rintro e w2 ⟨rfl, hb2⟩
      rw [HSH.out]
      have hT2 : Blk w2 wr.heap.size (tokC t.kind (bs t.text) t.n t.at_) 28 := (Blk.new wr _ 28).below hb2
      have HT3 := Lib.hid (hT2.set 3 (.int .i64 0))
      have HO2 := Lib.hid (own_gb (own_gb HO.out (gb_alloc (gb_refl _ _) _)) (gb_below (gb_refl _ _) hb2))
      have HOB := Lib.hid (own_fresh HO.out)
      have HB2 := Lib.hid ((HBE.out.alloc HBE.out.size _).trans (hb2.mono (by rw [size_alloc]; have := HBE.out.size; omega)))
      obtain ⟨t0, t1, t2, t3, f0, f1, f2, f3, hl2⟩ := tok_cells hT2
      have hsz2 : w.heap.size ≤ wr.heap.size := HBE.out.size
      clear hb2 hT2 HO HBE p0 p1 p2 p3
      go_wp2_with fail
      have hE3 : Env (w2.setCell ⟨wr.heap.size, 3, none⟩ (.int .i64 0)) := (HE.out.below HB2.out).set (by have := HE.out.size; omega) _ _
      refine (lex_any (bs sh) _ hE3 (by rw [bs_size, ← HSH.out]; omega)).mono ?_
      rintro e w3 ⟨v, p, err, rfl, hb3, hp⟩
      rw [bs_toList, ← HSH.out, HG5.out] at hp
      obtain ⟨rfl, rfl, hTv⟩ := hp
      have hT4 : Blk w3 wr.heap.size (tokC (bareT t).kind (bs (bareT t).text) (bareT t).n (bareT t).at_) 28 := HT3.out.below hb3
      have HO3 := Lib.hid (own_gb (HO2.out.kept (gb_row (gb_refl _ _) 3 (.int .i64 0)) HOB.out) (gb_below (gb_refl _ _) hb3))
      have HB3 := Lib.hid ((HB2.out.setCell (p := ⟨wr.heap.size, 3, none⟩) hsz2 (.int .i64 0)).trans (hb3.mono (by rw [size_set]; omega)))
      have HTV := Lib.hid hTv
      clear t0 t1 t2 t3 f0 f1 f2 f3 hE3 hb3 hTv HT3 HO2 HB2
      obtain ⟨t0, t1, t2, t3, f0, f1, f2, f3, hl3⟩ := tok_cells hT4
      have hl2' : wr.heap.size < w3.heap.size := hT4.lt
      clear hT4
      go_wp2_with fail
      refine (eq_any _ _ _ [bareT t] [bareT t] (HTV.out.below ((Below.refl _ _).alloc (Nat.le_refl _) _)) (Toks.one (Blk.new _ _ _)) (by simp)).mono ?_
      rintro e w4 ⟨rfl, m, rfl⟩
      have hsz3 : w.heap.size ≤ w3.heap.size := HB3.out.size
      rw [decide_eq_true (rfl : [bareT t] = [bareT t])]
      clear t0 t1 t2 t3 f0 f1 f2 f3 HTV
      go_wp2_with (at_builtin; refine wpList_append_own _ rfl _ _ 32 rfl w.heap.size 9 i0 (.string ⟨#[]⟩) 1 16 Tryz.underlying32 hi hz0 hz1 hz2 rfl (by decide) _ _ _ rfl (own_gb HO3.out (gb_alloc (gb_drewN (gb_alloc (gb_refl _ _) _) _) _)) ⟨w3.heap.size + 1, 0, none⟩ 1 1 [.string (bs sh)] rfl rfl (news_str (bs sh) (Blk.new2d _ _ _ _ _)) (by simp [Value.oneCell']) HN.out.1 HN.out.2 (by simp only [size_alloc, size_dn]; omega) ?_)
      intro v' w' hown' hgrow _
      have HO' := Lib.hid hown'
      have HB' := Lib.hid (below_gb ((below_dn (HB3.out.alloc HB3.out.size _) m).alloc (by simp only [size_alloc, size_dn]; omega) _) hgrow (by simp only [size_alloc, size_dn]; omega) (fun j hj => (HO3.out.lt j hj).1))
      clear hown' hgrow HO3 HB3
      go_wp2
      go_roundg (gk - 1)
      case measure => have := HK.out; omega
      case rel =>
        refine ⟨i + 1, by have := HK.out; omega, by omega, by rfl, ?_, HB'.out⟩
        have e9 : (l.take (i + 1)).map strC = (l.take i).map strC ++ [.string (bs sh)] := by rw [List.take_add_one, T1.out]; simp [strC, HSH.out]
        rw [e9]
        have := HO'.out
        rw [← List.map_take] at this
        exact this
end Go.Proofs.YtfhiemficfibgaaGreatDoor
