/- The three statements' own walks. -/
import Derived.Test.YtfhiemficfibgaaGreatDoorA15
import Derived.Laws.IdiomStrings
set_option linter.unusedVariables false
namespace Go.Proofs.YtfhiemficfibgaaGreatDoor
open Go.RowKit

theorem mod_pick (n k : Int) (hk : 0 < k) (hk2 : k ≤ 1000) : ∃ r : Nat, (wrap64 (n.tmod k + k)).tmod k = (r : Int) ∧ (r : Int) < k := by
  have h1 := Int.lt_tmod_of_pos n hk
  have h2 := Int.tmod_lt_of_pos n hk
  rw [IntWalk.wrap64_in _ (by omega)]
  have h3 := Int.tmod_nonneg (a := n.tmod k + k) k (by omega)
  have h4 := Int.tmod_lt_of_pos (n.tmod k + k) hk
  exact ⟨((n.tmod k + k).tmod k).toNat, by omega, by omega⟩
theorem ahead_len : ∀ b ∈ aheads, b.length ≤ 10 := by decide

set_option maxRecDepth 100000 in
set_option maxHeartbeats 4000000 in
theorem notes_any (s : ByteArray) (n : Int) (w : World) (hE : Env w) (hs : s.size ≤ 1500000) :
    Calls Tryz.prog 4 #[.string s, .int .i64 n] w fun e w' => e = .returned (.bool true) ∧ Below w.heap.size w w' := by
  have HE := Lib.hid hE
  clear hE
  go_enter Tryz.func4, Tryz.ntmps4
  go_upto_region 1 with fail
  go_cut [5] (fun s5 wx => ∃ b, b ∈ aheads ∧ s5 = .string (bs b) ∧ Below w.heap.size w wx)
  case first =>
    obtain ⟨r, hr, hr5⟩ := mod_pick n 5 (by omega) (by omega)
    rcases (by omega : r = 0 ∨ r = 1 ∨ r = 2 ∨ r = 3 ∨ r = 4) with rfl | rfl | rfl | rfl | rfl
    · go_wp2_with fail
      go_meet
      exact ⟨[32], by decide, rfl, (Below.refl _ _).alloc (Nat.le_refl _) _⟩
    · go_wp2_with fail
      go_meet
      exact ⟨[10], by decide, rfl, (Below.refl _ _).alloc (Nat.le_refl _) _⟩
    · go_wp2_with fail
      go_meet
      exact ⟨[47, 42, 32, 105, 116, 39, 115, 32, 42, 47], by decide, rfl, (Below.refl _ _).alloc (Nat.le_refl _) _⟩
    · go_wp2_with fail
      go_meet
      exact ⟨[45, 45, 32, 115, 111, 10], by decide, rfl, (Below.refl _ _).alloc (Nat.le_refl _) _⟩
    · go_wp2_with fail
      go_meet
      exact ⟨[9, 32, 13, 10], by decide, rfl, (Below.refl _ _).alloc (Nat.le_refl _) _⟩
  case rest =>
    obtain ⟨b, hb, rfl, hbel⟩ := hcut
    have HB := Lib.hid hbel
    have HA := Lib.hid hb
    have hbl := ahead_len b hb
    clear hbel hb
    have hbz := bs_size b
    have y1 : ¬ (9223372036854775807 < (bs b).size + s.size) := by omega
    have y2 : ¬ (9223372036854775807 < (bs b).size + s.size + 1) := by omega
    have y3 : ¬ (9223372036854775807 < (bs b).size + s.size + 1 + (bs b).size) := by omega
    have hT2 : Hid ((bs b ++ s ++ (⟨#[10]⟩ : ByteArray) ++ bs b).data.toList = b ++ s.data.toList ++ [10] ++ b) := Lib.hid (by simp [bs])
    have hTs : Hid ((bs b ++ s ++ (⟨#[10]⟩ : ByteArray) ++ bs b).size ≤ 2000000) := Lib.hid (by
      have : (bs b ++ s ++ (⟨#[10]⟩ : ByteArray) ++ bs b).size = (bs b).size + s.size + 1 + (bs b).size := by
        simp only [ByteArray.size_append]; rfl
      omega)
    have HW := notes_law words b s.data.toList HA.out
    cases hx : LX words s.data.toList 0 with
    | error pe =>
      obtain ⟨p0, x0⟩ := pe
      go_wp2_with fail
      refine (lex_any s _ (HE.out.below HB.out) (by omega)).mono ?_
      rintro e w2 ⟨v, p, err, rfl, hb2, hp⟩
      rw [hx] at hp
      obtain ⟨rfl, rfl, rfl, hne⟩ := hp
      have HB2 := Lib.hid (HB.out.trans (hb2.mono HB.out.size))
      have hd : (err != 0) = true := by simpa using hne
      clear hb2 HB HW hne hx hbz
      go_wp2_with fail
      refine (lex_any _ _ (HE.out.below HB2.out) hTs.out).mono ?_
      rintro e w3 ⟨v2, p2, err2, rfl, hb3, _⟩
      have HB3 := Lib.hid (HB2.out.trans (hb3.mono HB2.out.size))
      clear hb3 HB2
      go_wp2_with fail
      refine (awake_any _ (HE.out.below HB3.out)).mono ?_
      rintro e w4 ⟨rfl, hb4⟩
      have HB4 := Lib.hid (HB3.out.trans (hb4.mono HB3.out.size))
      clear hb4 HB3
      go_wp2
      refine bodyPost_ret (v := .bool true) (by simp [results, Tryz.results4, go_sem]) rfl ?_
      exact ⟨rfl, HB4.out⟩
    | ok l =>
      obtain ⟨m, hm, hmb⟩ := HW l hx
      go_wp2_with fail
      refine (lex_any s _ (HE.out.below HB.out) (by omega)).mono ?_
      rintro e w2 ⟨v, p, err, rfl, hb2, hp⟩
      rw [hx] at hp
      obtain ⟨rfl, rfl, hT⟩ := hp
      have HB2 := Lib.hid (HB.out.trans (hb2.mono HB.out.size))
      have HT := Lib.hid hT
      have HM := Lib.hid hm
      have HMB := Lib.hid hmb
      have HL := Lib.hid (LX_len words l _ _ hx)
      have HML : Hid (m.length = l.length) := Lib.hid (by have := congrArg List.length hmb; simpa using this)
      clear hb2 HB HW hT hm hmb hx hbz
      go_wp2_with fail
      refine (lex_any _ _ (HE.out.below HB2.out) hTs.out).mono ?_
      rintro e w3 ⟨v2, p2, err2, rfl, hb3, hp⟩
      rw [hT2.out, HM.out] at hp
      obtain ⟨rfl, rfl, hTm⟩ := hp
      have HB3 := Lib.hid (HB2.out.trans (hb3.mono HB2.out.size))
      have HT3 := Lib.hid (HT.out.below hb3)
      have HTM := Lib.hid hTm
      clear hb3 HB2 HT hTm
      go_wp2_with fail
      refine (bare_any _ _ m HTM.out (by rw [HML.out]; have := HL.out; rw [size_list] at this; omega)).mono ?_
      rintro e w4 ⟨v4, rfl, hT4, hb4⟩
      have HB4 := Lib.hid (HB3.out.trans (hb4.mono HB3.out.size))
      have HT4 := Lib.hid (HT3.out.below hb4)
      have HTB := Lib.hid hT4
      clear hb4 HB3 HT3 hT4 HTM
      go_wp2_with fail
      refine (bare_any _ _ l HT4.out (by have := HL.out; rw [size_list] at this; omega)).mono ?_
      rintro e w5 ⟨v5, rfl, hT5, hb5⟩
      have HB5 := Lib.hid (HB4.out.trans (hb5.mono HB4.out.size))
      have HTB5 := Lib.hid (HTB.out.below hb5)
      have HT5 := Lib.hid hT5
      clear hb5 HB4 HTB hT5 HT4
      go_wp2_with fail
      refine (same_any _ _ _ _ _ HTB5.out HT5.out (by rw [List.length_map, HML.out]; have := HL.out; rw [size_list] at this; omega)).mono ?_
      rintro e w6 ⟨rfl, q, hw6⟩
      rw [decide_eq_true HMB.out]
      have HB6 := Lib.hid (show Below w.heap.size w w6 by rw [hw6]; exact below_dn HB5.out q)
      clear hw6 HB5 HTB5 HT5
      go_wp2_with fail
      refine (awake_any _ (HE.out.below HB6.out)).mono ?_
      rintro e w7 ⟨rfl, hb7⟩
      have HB7 := Lib.hid (HB6.out.trans (hb7.mono HB6.out.size))
      clear hb7 HB6
      go_wp2
      refine bodyPost_ret (v := .bool true) (by simp [results, Tryz.results4, go_sem]) rfl ?_
      exact ⟨rfl, HB7.out⟩

/-- A block of bytes that bears the run-time's mark behind its end. -/
structure ByBlk (w : World) (k : Nat) (cs : Array Value) (n : Nat) : Prop where
  block : ∃ fz : Nat × Nat, w.heap[k]? = some (.cells cs 5 fz) ∧ cs.size ≤ fz.1
  le : n ≤ cs.size
theorem ByBlk.lt {w : World} {k : Nat} {cs : Array Value} {n : Nat} (h : ByBlk w k cs n) : k < w.heap.size := by
  obtain ⟨fz, h, _⟩ := h.block
  exact (Array.getElem?_eq_some_iff.1 h).1
theorem ByBlk.cell {w : World} {k : Nat} {cs : Array Value} {n : Nat} (h : ByBlk w k cs n) (i : Nat) {v : Value} (hv : cs[i]? = some v) : w.cell? ⟨k, i, none⟩ = some v := by
  obtain ⟨fz, h, _⟩ := h.block
  simp [World.cell?, h, hv]
theorem ByBlk.free {w : World} {k : Nat} {cs : Array Value} {n : Nat} (h : ByBlk w k cs n) (i : Nat) (hi : i < n) : w.frozen? ⟨k, i, none⟩ = false := by
  have hl := h.le
  obtain ⟨fz, h, hf⟩ := h.block
  simp [World.frozen?, h]
  omega
theorem ByBlk.set {w : World} {k : Nat} {cs : Array Value} {n : Nat} (h : ByBlk w k cs n) (i : Nat) (v : Value) : ByBlk (w.setCell ⟨k, i, none⟩ v) k (cs.setIfInBounds i v) n := by
  have hl := h.lt
  have hle := h.le
  obtain ⟨fz, h, hf⟩ := h.block
  refine ⟨⟨fz, by simp [World.setCell, Array.getElem?_modify, h], by simpa using hf⟩, by simpa using hle⟩
/-- Some letters have been made large. -/
def halfCaps (x : Bytes) (i : Nat) : Bytes := (x.take i).map (· - 32) ++ x.drop i
theorem half_get (x : Bytes) (i j : Nat) : (halfCaps x i)[j]? = if j < i then (x[j]?).map (· - 32) else x[j]? := by
  unfold halfCaps
  rw [List.getElem?_append]
  by_cases h : j < i
  · rw [if_pos h]
    by_cases hx : j < x.length
    · rw [if_pos (by simp; omega), List.getElem?_map, List.getElem?_take_of_lt h]
    · rw [if_neg (by simp; omega), List.getElem?_drop, List.getElem?_eq_none (by simp; omega), List.getElem?_eq_none (by omega)]
      rfl
  · rw [if_neg h, if_neg (by simp; omega), List.getElem?_drop]
    by_cases hx : i ≤ x.length
    · rw [show i + (j - ((x.take i).map (· - 32)).length) = j from by simp; omega]
    · rw [List.getElem?_eq_none (by simp; omega), List.getElem?_eq_none (by omega)]
theorem small_range : ∀ x ∈ words, ∀ c ∈ x, 97 ≤ c.toNat := by decide +kernel
theorem small_len : ∀ x ∈ words, x.length ≤ 20 := by decide +kernel
/-- The row bears the letters. -/
def CapRow (w : World) (k : Nat) (x : Bytes) (i : Nat) : Prop := ∃ cs, ByBlk w k cs x.length ∧ ∀ (j : Nat) (c : UInt8), (halfCaps x i)[j]? = some c → cs[j]? = some (.int .u8 (c.toNat : Int))
theorem CapRow.step {w : World} {k : Nat} {x : Bytes} {i : Nat} (h : CapRow w k x i) {c : UInt8} (hc : x[i]? = some c) (h97 : 97 ≤ c.toNat) : CapRow (w.setCell ⟨k, i, none⟩ (.int .u8 ((c.toNat : Int) - 32))) k x (i + 1) := by
  obtain ⟨cs, hb, hcs⟩ := h
  refine ⟨_, hb.set i _, fun j d hd => ?_⟩
  have hi : i < x.length := (List.getElem?_eq_some_iff.1 hc).1
  have hle := hb.le
  rw [half_get] at hd
  rw [Array.getElem?_setIfInBounds]
  by_cases hij : i = j
  · subst hij
    rw [if_pos (by omega), hc] at hd
    rw [if_pos rfl, if_pos (by omega)]
    simp at hd
    rw [← hd]
    have : ((c - 32).toNat : Int) = (c.toNat : Int) - 32 := by
      rw [UInt8.toNat_sub_of_le _ _ (by rw [UInt8.le_iff_toNat_le]; exact Nat.le_trans (by decide) h97)]
      have : (32 : UInt8).toNat = 32 := rfl
      omega
    rw [this]
  · rw [if_neg hij]
    refine hcs j d ?_
    rw [half_get]
    by_cases hj : j < i
    · rw [if_pos hj]; rw [if_pos (by omega)] at hd; exact hd
    · rw [if_neg hj]; rw [if_neg (by omega)] at hd; exact hd
theorem CapRow.at {w : World} {k : Nat} {x : Bytes} {i : Nat} (h : CapRow w k x i) {c : UInt8} (hc : x[i]? = some c) : w.cell? ⟨k, i, none⟩ = some (.int .u8 (c.toNat : Int)) ∧ w.frozen? ⟨k, i, none⟩ = false := by
  obtain ⟨cs, hb, hcs⟩ := h
  have hi : i < x.length := (List.getElem?_eq_some_iff.1 hc).1
  refine ⟨hb.cell i (hcs i c ?_), hb.free i hi⟩
  rw [half_get, if_neg (by omega)]
  exact hc
theorem CapRow.back {w : World} {k : Nat} {x : Bytes} (h : CapRow w k x x.length) (cap : Nat) : (convert 35 9 (.slice (some ⟨k, 0, none⟩) x.length cap)).run Tryz.prog w = .ok (.string (bs (capsL x))) w := by
  obtain ⟨cs, hb, hcs⟩ := h
  have hl : (capsL x).length = x.length := by simp [capsL]
  have := run_convert_bytes_back (P := Tryz.prog) w 35 9 5 ⟨k, 0, none⟩ cap (capsL x) (by kernel_rfl) (by kernel_rfl) (by kernel_rfl) (fun j hj => ?_)
  · rw [hl] at this
    exact this
  · have hadd : (⟨k, 0, none⟩ : Addr).add j = ⟨k, j, none⟩ := by unfold Addr.add; split <;> simp_all
    rw [hadd]
    refine hb.cell j (hcs j _ ?_)
    rw [half_get, if_pos (by omega), List.getElem?_eq_getElem (by omega)]
    simp [capsL]
theorem CapRow.new (w : World) (x : Bytes) (cap : Nat) (hcap : x.length ≤ cap) : CapRow (w.drew.alloc (.cells (bytesRow (bs x) cap) 5 ((bytesRow (bs x) cap).size, (bytesRow (bs x) cap).size + 1))) w.heap.size x 0 := by
  refine ⟨bytesRow (bs x) cap, ⟨⟨_, heap_alloc_new w.drew _, Nat.le_refl _⟩, ?_⟩, fun j c hc => ?_⟩
  · simp [bytesRow, bs]
  · rw [half_get, if_neg (by omega)] at hc
    have hj : j < x.length := (List.getElem?_eq_some_iff.1 hc).1
    unfold bytesRow
    rw [Array.getElem?_append_left (by simp [bs]; exact hj)]
    simp [bs, hc]

theorem small_law (x : Bytes) (hx : x ∈ words) : ∃ t1 t2 t3, LX words (smallT x) 0 = .ok [⟨2, x, 0, 0⟩, t1, t2, t3] ∧ t1.kind = 2 ∧ t1.text = x ∧ t2.kind = 1 ∧ t2.text = x ++ [95] ∧ t3.kind = 1 := by
  have h := List.all_eq_true.1 small_all x hx
  unfold smallB at h
  split at h
  · rename_i t0 t1 t2 t3 hl
    simp only [Bool.and_eq_true, decide_eq_true_eq] at h
    obtain ⟨rfl, h1, h2, h3, h4, h5⟩ := h
    exact ⟨t1, t2, t3, hl, h1, h2, h3, h4, h5⟩
  · simp at h

set_option maxRecDepth 100000 in
set_option maxHeartbeats 4000000 in
theorem small_any (n : Int) (w : World) (hE : Env w) :
    Calls Tryz.prog 5 #[.int .i64 n] w fun e w' => e = .returned (.bool true) ∧ Below w.heap.size w w' := by
  have HE := Lib.hid hE
  clear hE
  go_enter Tryz.func5, Tryz.ntmps5
  go_wp2_with fail
  refine (words_any _ HE.out).mono ?_
  rintro e w2 ⟨rfl, rfl⟩
  go_wp2_with fail
  refine (refwords_any _).mono ?_
  rintro e w2 ⟨rfl, hb⟩
  have hW : Blk w2 w.heap.size wordRow 9 := (Blk.new w wordRow 9).below hb
  have HB := Lib.hid (((Below.refl w.heap.size w).alloc (Nat.le_refl _) _).trans (hb.mono (by rw [size_alloc]; omega)))
  obtain ⟨r, hr, hr5⟩ := mod_pick n 58 (by omega) (by omega)
  obtain ⟨x, hx, hxc⟩ := word_cell hW (show r < 58 by omega)
  have HX := Lib.hid (List.mem_of_getElem? hx)
  have e5 : ((r : Nat) : Int).toNat = r := by omega
  have e6 : (0 : Int) ≤ r := by omega
  have hsz : w.heap.size < w2.heap.size := hW.lt
  obtain ⟨cap, hcap⟩ : ∃ cap, grownCap w2 (bs x).size 0 5 = cap := ⟨_, rfl⟩
  have hcv := run_bytes_of_string (P := Tryz.prog) w2 9 35 5 (bs x) (by kernel_rfl) (by kernel_rfl) (by kernel_rfl)
  have hcap2 : x.length ≤ cap := by rw [← hcap, ← bs_size x]; exact grownCap_ge _ _ _ _
  rw [hcap, bs_size] at hcv
  have hrow := CapRow.new w2 x cap hcap2
  have hbel : Below w.heap.size w (w2.drew.alloc (.cells (bytesRow (bs x) cap) 5 ((bytesRow (bs x) cap).size, (bytesRow (bs x) cap).size + 1))) := (below_dn HB.out 1).alloc (Nat.le_of_lt hsz) _
  obtain ⟨w3, hw3⟩ : ∃ w3, w2.drew.alloc (.cells (bytesRow (bs x) cap) 5 ((bytesRow (bs x) cap).size, (bytesRow (bs x) cap).size + 1)) = w3 := ⟨_, rfl⟩
  rw [hw3] at hcv hrow hbel
  obtain ⟨K, hK⟩ : ∃ K, w2.heap.size = K := ⟨_, rfl⟩
  rw [hK] at hcv hrow
  have hKw : w.heap.size ≤ K := by omega
  have hxl := small_len x HX.out
  have hx97 := small_range x HX.out
  have HX97 := Lib.hid hx97
  clear hb hW hx hx97 hcap hw3
  go_wp2_with fail
  clear hcv
  go_loopg [6] (x.length + 1) (fun k v6 wr => ∃ i : Nat, i + k = x.length + 1 ∧ i ≤ x.length ∧ v6 = .int .i64 i ∧ CapRow wr K x i ∧ Below w.heap.size w wr)
  case atStart => exact ⟨0, by omega, by omega, rfl, hrow, hbel⟩
  case round =>
    obtain ⟨i, hk, hi, rfl, hr, hbl⟩ := hrel
    by_cases he : i = x.length
    · subst he
      have hd : decide ((x.length : Int) < x.length) = false := by simp
      have hbk := hr.back cap
      obtain ⟨t1, t2, t3, hlx, ht1, ht1', ht2, ht2', ht3⟩ := small_law x HX.out
      have hs1 := bs_size x
      have hs2 : (bs (capsL x)).size = x.length := by rw [bs_size]; simp [capsL]
      have y1 : ¬ (9223372036854775807 < (bs x).size + 1) := by omega
      have y2 : ¬ (9223372036854775807 < (bs x).size + 1 + (bs (capsL x)).size) := by omega
      have y3 : ¬ (9223372036854775807 < (bs x).size + 1 + (bs (capsL x)).size + 1) := by omega
      have y4 : ¬ (9223372036854775807 < (bs x).size + 1 + (bs (capsL x)).size + 1 + (bs x).size) := by omega
      have y5 : ¬ (9223372036854775807 < (bs x).size + 1 + (bs (capsL x)).size + 1 + (bs x).size + 2) := by omega
      have y6 : ¬ (9223372036854775807 < (bs x).size + 1 + (bs (capsL x)).size + 1 + (bs x).size + 2 + 1) := by omega
      have y7 : ¬ (9223372036854775807 < (bs x).size + 1 + (bs (capsL x)).size + 1 + (bs x).size + 2 + 1 + (bs x).size) := by omega
      have HT2 : Hid ((bs x ++ (⟨#[32]⟩ : ByteArray) ++ bs (capsL x) ++ (⟨#[32]⟩ : ByteArray) ++ bs x ++ (⟨#[95, 32]⟩ : ByteArray) ++ (⟨#[95]⟩ : ByteArray) ++ bs x).data.toList = smallT x) := Lib.hid (by simp [bs, smallT])
      have HTs : Hid ((bs x ++ (⟨#[32]⟩ : ByteArray) ++ bs (capsL x) ++ (⟨#[32]⟩ : ByteArray) ++ bs x ++ (⟨#[95, 32]⟩ : ByteArray) ++ (⟨#[95]⟩ : ByteArray) ++ bs x).size ≤ 2000000) := Lib.hid (by
        have : (bs x ++ (⟨#[32]⟩ : ByteArray) ++ bs (capsL x) ++ (⟨#[32]⟩ : ByteArray) ++ bs x ++ (⟨#[95, 32]⟩ : ByteArray) ++ (⟨#[95]⟩ : ByteArray) ++ bs x).size = (bs x).size + 1 + (bs (capsL x)).size + 1 + (bs x).size + 2 + 1 + (bs x).size := by
          simp only [ByteArray.size_append]; rfl
        omega)
      have HLX := Lib.hid hlx
      have HBR := Lib.hid hbl
      clear hk hi hrow hlx hs1 hs2 hbel hbl hr hxc
      go_wp2_with fail
      refine (lex_any _ _ (HE.out.below HBR.out) HTs.out).mono ?_
      rintro e w5 ⟨v, p, err, rfl, hb5, hp⟩
      rw [HT2.out, HLX.out] at hp
      obtain ⟨rfl, rfl, hT⟩ := hp
      have HB5 := Lib.hid (HBR.out.trans (hb5.mono HBR.out.size))
      rcases hT with ⟨_, h⟩ | ⟨g, off, cp, rfl, hcp, hg, hcell⟩
      · simp at h
      obtain ⟨a0, a1, a2, a3⟩ := hcell 0 _ rfl
      obtain ⟨b0, b1, b2, b3⟩ := hcell 1 _ rfl
      obtain ⟨d0, d1, d2, d3⟩ := hcell 2 _ rfl
      obtain ⟨k0, k1, k2, k3⟩ := hcell 3 _ rfl
      rw [ht1] at b0
      rw [ht1'] at b1
      rw [ht2] at d0
      rw [ht2'] at d1
      rw [ht3] at k0
      simp only [Nat.zero_mul, Nat.add_zero, Nat.one_mul, Nat.reduceMul] at a0 a1 a2 a3 b0 b1 d0 d1 k0
      have heq := tk_eql ⟨2, x, 0, 0⟩ ⟨2, x, 0, 0⟩
      rw [decide_eq_true rfl] at heq
      unfold tkVal at heq
      have hgd := tk_guard .eql (.tmp 70) (.tmp 72)
      have hcat : bs x ++ (⟨#[95]⟩ : ByteArray) = bs (x ++ [95]) := bs_append2 x [95]
      clear hb5 HBR hcell ht1 ht1' ht2 ht2' ht3 b2 b3 d2 d3 k1 k2 k3 hbk y2 y3 y4 y5 y6 y7 HT2 HTs HLX
      go_wp2_with fail
      refine (awake_any _ (HE.out.below HB5.out)).mono ?_
      rintro e w6 ⟨rfl, hb6⟩
      have HB6 := Lib.hid (HB5.out.trans (hb6.mono HB5.out.size))
      clear hb6 HB5 a0 a1 a2 a3 b0 b1 d0 d1 k0
      go_wp2
      refine bodyPost_ret (v := .bool true) (by simp [results, Tryz.results5, go_sem]) rfl ?_
      exact ⟨rfl, HB6.out⟩
    · have hd : decide ((i : Int) < x.length) = true := by simp; omega
      obtain ⟨c, hc⟩ : ∃ c, x[i]? = some c := ⟨_, List.getElem?_eq_getElem (by omega)⟩
      have h97 := HX97.out c (List.mem_of_getElem? hc)
      obtain ⟨q0, f0⟩ := hr.at hc
      have hlt := c.toNat_lt
      have e7 : ((i : Nat) : Int).toNat = i := by omega
      have e8 : (0 : Int) ≤ i := by omega
      have e9 : (i : Int) < x.length := by omega
      have q2 : IntKind.u8.wrap ((c.toNat : Int) - 32) = (c.toNat : Int) - 32 := by
        rw [IntKind.wrap_u8]
        omega
      have HR := Lib.hid (hr.step hc h97)
      have HBL := Lib.hid (hbl.setCell (p := ⟨K, i, none⟩) hKw (.int .u8 ((c.toNat : Int) - 32)))
      have HK := Lib.hid hk
      clear hr hbl hrow hbel hk hc
      go_wp2
      go_roundg (gk - 1)
      case measure => have := HK.out; omega
      case rel => exact ⟨i + 1, by have := HK.out; omega, by omega, by rfl, HR.out, HBL.out⟩
end Go.Proofs.YtfhiemficfibgaaGreatDoor
