/- The statement on the tokens' places: its walk. -/
import Derived.Test.YtfhiemficfibgaaGreatDoorA15
import Derived.Deep.RegionWith
set_option linter.unusedVariables false
namespace Go.Proofs.YtfhiemficfibgaaGreatDoor
open Go.RowKit

theorem Toks.at {w : World} {g off n cap : Nat} {l : List Tk} (h : Toks w (.slice (some ⟨g, off, none⟩) n cap) l) {i : Nat} {t : Tk} (ht : l[i]? = some t) :
    w.cell? ⟨g, off + i * 4, none⟩ = some (.int .i64 t.kind) ∧ w.cell? ⟨g, off + i * 4 + 1, none⟩ = some (.string (bs t.text)) ∧ w.cell? ⟨g, off + i * 4 + 2, none⟩ = some (.int .i64 t.n) ∧ w.cell? ⟨g, off + i * 4 + 3, none⟩ = some (.int .i64 t.at_) := by
  rcases h with ⟨h, _⟩ | ⟨g', off', cap', hv, _, _, hcell⟩
  · exact absurd h (by simp)
  · injection hv with h1 h2 h3
    injection h1 with h1
    injection h1 with h4 h5 h6
    subst h4 h5
    exact hcell i t ht
theorem Toks.drew {w : World} {v : Value} {l : List Tk} (h : Toks w v l) : Toks w.drew v l := h.below (below_dn (Below.refl _ w) 1)
theorem Toks.cap {w : World} {g off n cap : Nat} {l : List Tk} (h : Toks w (.slice (some ⟨g, off, none⟩) n cap) l) : n ≤ cap := by
  rcases h with ⟨h, _⟩ | ⟨g', off', cap', hv, hc, _⟩
  · exact absurd h (by simp)
  · injection hv with h1 h2 h3
    omega

set_option maxRecDepth 100000 in
set_option maxHeartbeats 4000000 in
theorem places_any (s : ByteArray) (w : World) (hE : Env w) (hs : s.size ≤ 1500000) :
    Calls Tryz.prog 3 #[.string s] w fun e w' => e = .returned (.bool true) ∧ Below w.heap.size w w' := by
  have HE := Lib.hid hE
  clear hE
  go_enter Tryz.func3, Tryz.ntmps3
  cases hx : LX words s.data.toList 0 with
  | error pe =>
    obtain ⟨p0, x0⟩ := pe
    go_wp2_with fail
    refine (lex_any s _ HE.out (by omega)).mono ?_
    rintro e w2 ⟨v, p, err, rfl, hb2, hp⟩
    rw [hx] at hp
    obtain ⟨rfl, rfl, rfl, hne⟩ := hp
    have HB2 := Lib.hid hb2
    have hd : (err != 0) = true := by simpa using hne
    clear hb2 hne hx
    go_wp2_with fail
    refine (awake_any _ (HE.out.below HB2.out)).mono ?_
    rintro e w4 ⟨rfl, hb4⟩
    have HB4 := Lib.hid (HB2.out.trans (hb4.mono HB2.out.size))
    clear hb4 HB2
    go_wp2
    refine bodyPost_ret (v := .bool true) (by simp [results, Tryz.results3, go_sem]) rfl ?_
    exact ⟨rfl, HB4.out⟩
  | ok l =>
    go_wp2_with fail
    refine (lex_any s _ HE.out (by omega)).mono ?_
    rintro e w1 ⟨v, p, err, rfl, hb2, hp⟩
    rw [hx] at hp
    obtain ⟨rfl, rfl, hT⟩ := hp
    have HP := Lib.hid (places_top words s.data.toList l hx)
    have hll := LX_len words l _ _ hx
    rw [size_list] at hll
    obtain ⟨a1, k1, rfl⟩ := hT.len
    have HT := Lib.hid hT
    have HB1 := Lib.hid hb2
    clear hT hb2 hx
    go_wp2
    go_loopg [6] (l.length + 1) (fun k v6 wr => ∃ i : Nat, i + k = l.length + 1 ∧ i ≤ l.length ∧ v6 = .int .i64 i ∧ Below w1.heap.size w1 wr)
    case atStart => exact ⟨0, by omega, by omega, rfl, Below.refl _ _⟩
    case round =>
      obtain ⟨i, hk, hi, rfl, hbl⟩ := hrel
      by_cases he : i = l.length
      · subst he
        have hd : decide ((l.length : Int) < l.length) = false := by simp
        have HBR := Lib.hid (HB1.out.trans (hbl.mono HB1.out.size))
        clear hk hi hbl
        go_wp2_with fail
        refine (awake_any _ (HE.out.below HBR.out)).mono ?_
        rintro e w4 ⟨rfl, hb4⟩
        have HB4 := Lib.hid (HBR.out.trans (hb4.mono HBR.out.size))
        clear hb4
        go_wp2
        refine bodyPost_ret (v := .bool true) (by simp [results, Tryz.results3, go_sem]) rfl ?_
        exact ⟨rfl, HB4.out⟩
      · have hd : decide ((i : Int) < l.length) = true := by simp; omega
        obtain ⟨t, ht⟩ : ∃ t, l[i]? = some t := ⟨_, List.getElem?_eq_getElem (by omega)⟩
        obtain ⟨hat, hrise, m, hm, hmb⟩ := HP.out i t ht
        rw [size_list] at hat
        rcases HT.out.below hbl with ⟨_, h⟩ | ⟨g, off, cp, hv, hcp, hg, hcell⟩
        · rw [h] at ht; simp at ht
        injection hv with h1 h2 h3
        clear h2
        subst h1 h3
        obtain ⟨a0, a1, a2, a3⟩ := hcell i t ht
        have e5 : ((i : Nat) : Int).toNat = i := by omega
        have e6 : (0 : Int) ≤ i := by omega
        have e7 : (i : Int) < l.length := by omega
        have e8 : i < l.length := by omega
        have d1 : decide ((t.at_ : Int) < 0) = false := by simp
        have d2 : decide ((t.at_ : Int) ≥ s.size) = false := by simp; omega
        have d2n : decide (s.size ≤ t.at_) = false := by simp; omega
        have d2' : decide ((s.size : Int) ≤ t.at_) = false := by simp; omega
        have HT1 := Lib.hid ht
        have HK := Lib.hid hk
        have HBL := Lib.hid hbl
        have HM := Lib.hid hm
        have HMB := Lib.hid hmb
        clear hk hbl hm hmb
        go_upto_region 7 with fail
        go_cut [58] (fun s58 wx => s58 = .bool false ∧ Below w1.heap.size w1 wx)
        case first =>
          by_cases hi0 : i = 0
          · have d3 : decide ((i : Int) > 0) = false := by simp; omega
            have d3' : decide ((0 : Int) < i) = false := by simp; omega
            have d3n : decide (0 < i) = false := by simp; omega
            have HI0 := Lib.hid hi0
            clear hrise hcell ht hi0
            go_quiet (fail)
            go_wp2_with fail
            go_meet
            exact ⟨rfl, below_dn HBL.out _⟩
          · have d3 : decide ((i : Int) > 0) = true := by simp; omega
            have d3' : decide ((0 : Int) < i) = true := by simp; omega
            have d3n : decide (0 < i) = true := by simp; omega
            obtain ⟨t', ht'⟩ : ∃ t, l[i - 1]? = some t := ⟨_, List.getElem?_eq_getElem (by omega)⟩
            obtain ⟨b0, b1, b2, b3⟩ := hcell (i - 1) t' ht'
            have hr := hrise (i - 1) t' (by omega) ht'
            have q1 : IntKind.i64.wrap ((i : Int) - 1) = (i : Int) - 1 := IntWalk.i64_in _ (by omega)
            have e9 : ((i : Int) - 1).toNat = i - 1 := by omega
            have e10 : (0 : Int) ≤ (i : Int) - 1 := by omega
            have e11 : (i : Int) - 1 < l.length := by omega
            have d4n : decide (t.at_ ≤ t'.at_) = false := by simp; omega
            have d4 : decide ((t.at_ : Int) ≤ t'.at_) = false := by simp; omega
            clear hrise hcell ht ht' b0 b1 b2 hr
            go_quiet (fail)
            go_wp2_with fail
            go_meet
            exact ⟨rfl, below_dn HBL.out _⟩
        case rest =>
          obtain ⟨rfl, hbl⟩ := hcut
          have HBX := Lib.hid hbl
          have HEx := Lib.hid (HE.out.below (HB1.out.trans (hbl.mono HB1.out.size)))
          obtain ⟨a0, a1, a2, a3⟩ := (HT.out.below hbl).at HT1.out
          have hcp := HT.out.cap
          have e9 : ((t.at_ : Nat) : Int).toNat = t.at_ := by omega
          have e10 : (0 : Int) ≤ t.at_ := by omega
          have e11 : (t.at_ : Int) ≤ s.size := by omega
          clear hbl hcell hrise ht d1 d2 d2' d2n
          go_wp2_with fail
          refine (lex_any _ _ HEx.out (by simp; omega)).mono ?_
          rintro e w3 ⟨v7, p7, err7, rfl, hb3, hp⟩
          rw [Lib.extract_to_end, HM.out] at hp
          obtain ⟨rfl, rfl, hTm⟩ := hp
          have HTM := Lib.hid hTm
          have HB3 := Lib.hid (HBX.out.trans (hb3.mono HBX.out.size))
          have hml : m.length = l.length - i := by
            have := congrArg List.length HMB.out
            simpa using this
          have HML := Lib.hid hml
          have hTd := (HT.out.below HB3.out).drop i hi
          have HTD := Lib.hid hTd
          have hci : (i : Int) ≤ k1 := by omega
          clear hb3 hTm a0 a1 a2 a3 hml hTd
          go_upto_region 10 with fail
          go_cut [82] (fun s82 wx => s82 = .bool false ∧ Below w1.heap.size w1 wx)
          case first =>
            go_region_with (first
              | (go_at_call_of 9 v7
                 refine (bare_any _ v7 m ?_ ?_).mono ?_
                 exact HTM.out.drew
                 rw [HML.out]
                 omega
                 rintro e w4 ⟨v4, rfl, hT4, hb4⟩
                 have HTB4 := Lib.hid hT4
                 have HTD4 := Lib.hid (HTD.out.drew.below hb4)
                 have HB4 := Lib.hid ((below_dn HB3.out 1).trans (hb4.mono HB3.out.size))
                 clear hT4 hb4)
              | (go_at_call 9
                 refine (bare_any _ _ (l.drop i) ?_ ?_).mono ?_
                 exact HTD4.out
                 rw [List.length_drop]
                 omega
                 rintro e w5 ⟨v5, rfl, hT5, hb5⟩
                 have HTB5 := Lib.hid (HTB4.out.below hb5)
                 have HTC5 := Lib.hid hT5
                 have HB5 := Lib.hid (HB4.out.trans (hb5.mono HB4.out.size))
                 clear hT5 hb5)
              | (go_at_call 8
                 refine (same_any _ _ _ (m.map bareT) ((l.drop i).map bareT) ?_ ?_ ?_).mono ?_
                 exact HTB5.out
                 exact HTC5.out
                 rw [List.length_map, HML.out]
                 omega
                 rintro e w6 ⟨rfl, q, hw6⟩
                 rw [decide_eq_true HMB.out]
                 have HB6 := Lib.hid (show Below w1.heap.size w1 w6 by rw [hw6]; exact below_dn HB5.out q)
                 clear hw6))
            go_wp2_with fail
            go_meet
            exact ⟨rfl, HB6.out⟩
          case rest =>
            obtain ⟨rfl, hbl⟩ := hcut
            have HBZ := Lib.hid hbl
            clear hbl
            go_wp2
            go_roundg (gk - 1)
            case measure => have := HK.out; omega
            case rel => exact ⟨i + 1, by have := HK.out; omega, by omega, by rfl, HBZ.out⟩
end Go.Proofs.YtfhiemficfibgaaGreatDoor
