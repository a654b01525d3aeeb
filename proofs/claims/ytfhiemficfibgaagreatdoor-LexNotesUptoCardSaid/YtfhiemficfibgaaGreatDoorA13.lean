/- A source's tokens. -/
import Derived.Test.YtfhiemficfibgaaGreatDoorA11
import Derived.Test.YtfhiemficfibgaaGreatDoorA12
import Derived.Test.YtfhiemficfibgaaGreatDoorB3
import Derived.Carry
namespace Go.Proofs.YtfhiemficfibgaaGreatDoor
open Go.RowKit

/-- What Lex leaves. -/
def LexPost (s : ByteArray) (w : World) (e : Ending) (w' : World) : Prop :=
  ∃ v p err, e = .returned (.tuple #[v, .int .i64 p, .int .i64 err]) ∧ Below w.heap.size w w' ∧ match LX words s.data.toList 0 with
  | .ok l => p = 0 ∧ err = 0 ∧ Toks w' v l
  | .error (q, x) => v = .slice none 0 0 ∧ p = q ∧ err = x ∧ x ≠ 0

theorem own_ne {w : World} {base : Nat} {e : TypeId} {size : Nat} {v : Value} {n : Nat} {xs : List Value} (h : w.ownsRow base e size v n xs) {k : Nat} (hk : k < base) : v.ownBlock = none ∨ v.ownBlock ≠ some k := by
  cases hv : v.ownBlock with
  | none => exact .inl rfl
  | some g =>
    refine .inr fun hc => ?_
    injection hc with hc
    have := (h.lt g hv).1
    omega
theorem WordMap.keep2 {w w' : World} {m : Nat} {ws : List Bytes} {r : Option Nat} (h : WordMap w m ws) (hg : w.grownBy w' r) (hr : r ≠ some m) : WordMap w' m ws :=
  h.keep (hg.block m h.lt (fun e => hr e.symm))
theorem below_dn {B : Nat} {w w' : World} (h : Below B w w') (n : Nat) : Below B w (w'.drewN n) := h.trans ⟨rfl, rfl, rfl, Nat.le_refl _, fun _ _ => rfl⟩
theorem own_neS {w : World} {base : Nat} {e : TypeId} {size : Nat} {v : Value} {n : Nat} {xs : List Value} (h : w.ownsRow base e size v n xs) {k : Nat} (hk : k < base) : v.ownBlock ≠ some k := by
  intro hc
  have := (h.lt k hc).1
  omega
theorem WordMap.empty (w : World) : WordMap (w.alloc (.map #[] 0)) w.heap.size [] :=
  ⟨#[], 0, heap_alloc_new w _, by simp, by simp⟩
theorem word_cell {w : World} {k i : Nat} (h : Blk w k wordRow 9) (hi : i < 58) : ∃ x, words[i]? = some x ∧ w.cell? ⟨k, i, none⟩ = some (.string (bs x)) := by
  have hl : i < words.length := by rw [words_len]; exact hi
  refine ⟨words[i], List.getElem?_eq_getElem hl, h.cell i ?_⟩
  unfold wordRow
  simp [List.getElem?_eq_getElem hl, bs]

set_option maxRecDepth 100000 in
set_option maxHeartbeats 4000000 in
theorem lex_any (s : ByteArray) (w : World) (hE : Env w) (hs : s.size ≤ 2000000) : Calls Tryz.prog 6 #[.string s] w (LexPost s w) := by
  have hmm := @run_makeMap Tryz.prog
  have HE := Lib.hid hE
  have h12 := hE.size
  clear hE
  obtain ⟨i0, hi, hz0, hz1, hz2⟩ := info_parts info28
  go_enter Tryz.func6, Tryz.ntmps6
  go_wp2_with fail
  refine (words_any _ ((HE.out.alloc _).alloc _)).mono ?_
  rintro e w2 ⟨rfl, hw2⟩
  have hR : Rdr w2 (w.heap.size + 1) s 0 w.heap.size 0 0 := by rw [hw2]; exact Blk.alloc (Blk.new2 _ _ _ _) _
  have hM : WordMap w2 w.heap.size [] := by
    rw [hw2]
    exact ((WordMap.empty w).grown (World.grownBy_alloc _ _ (some (w.heap.size + 1))) (by omega)).grown (World.grownBy_alloc _ _ (some (w.heap.size + 1))) (by omega)
  have hW : Blk w2 (w.heap.size + 2) wordRow 9 := by
    rw [hw2]
    have := Blk.new ((w.alloc (Obj.map #[] 0)).alloc (Obj.cells #[Value.string s, Value.int IntKind.i64 0, Value.map (some w.heap.size), Value.int IntKind.i64 0, Value.int IntKind.i64 0] 40)) wordRow 9
    simp only [size_alloc] at this
    exact this
  have hBel : Below w.heap.size w w2 := by
    rw [hw2]
    exact (((Below.refl _ _).alloc (Nat.le_refl _) _).alloc (by simp only [size_alloc]; omega) _).alloc (by simp only [size_alloc]; omega) _
  have hsz : ((w.alloc (Obj.map #[] 0)).alloc (Obj.cells #[Value.string s, Value.int IntKind.i64 0, Value.map (some w.heap.size), Value.int IntKind.i64 0, Value.int IntKind.i64 0] 40)).heap.size = w.heap.size + 2 := by simp only [size_alloc]
  rw [hsz]
  clear hw2 hsz
  obtain ⟨M, hMM⟩ : ∃ M, w.heap.size = M := ⟨_, rfl⟩
  rw [hMM] at hR hM hW ⊢
  have HMM := Lib.hid hMM
  clear hMM hmm
  go_wp2
  go_loopg [17] 60 (fun k v17 wr => ∃ i : Nat, i + k = 60 ∧ i ≤ 58 ∧ v17 = .int .i64 i ∧ Rdr wr (M + 1) s 0 M 0 0 ∧ WordMap wr M (words.take i) ∧ Blk wr (M + 2) wordRow 9 ∧ Below w.heap.size w wr)
  case atStart => exact ⟨0, by omega, by omega, rfl, hR, hM, hW, hBel⟩
  case round =>
    obtain ⟨i, hk, hi', rfl, hr, hm, hw, hbel⟩ := hrel
    by_cases he : i = 58
    · subst he
      have hd : decide (((58 : Nat) : Int) < 58) = false := by decide
      rw [← words_len, List.take_length] at hm
      clear hk hi'
      go_wp2
      have hlt := hw.lt
      clear hw
      go_loopg [8] (s.size + 1) (fun k v8 wr => ∃ (j : Nat) (L0 : List Tk), j ≤ s.size ∧ s.size - j < k ∧ Rdr wr (M + 1) s j M 0 0 ∧ WordMap wr M words ∧ Below w.heap.size w wr ∧ wr.ownsRow (M + 3) 28 4 v8 L0.length (tkCs L0) ∧ L0.length ≤ j ∧ LX words s.data.toList 0 = LXa L0 (LX words (s.data.toList.drop j) j))
      case atStart => exact ⟨0, [], by omega, by omega, hr, hm, hbel, World.ownsRow_nil _ _ _ _, by simp, by rw [LXa_nil]; rfl⟩
      case round =>
        obtain ⟨j, L0, hj, hk, hr, hm, hbel, hown, hl0, hlx⟩ := hrel
        rw [LX_step words (s.data.toList.drop j) j] at hlx
        have HEc := Lib.hid (HE.out.below hbel)
        have HNX := next_any words (M + 1) s j M _ hr hs hj HEc.out (by have := HMM.out; omega) hm (by omega)
        have hM3 : M + 3 ≤ 0 ∨ True := .inr trivial
        have HBE := Lib.hid hbel
        have HO := Lib.hid hown
        have HM := Lib.hid hm
        have HK := Lib.hid hk
        clear hr hm hbel hown hk hM3
        cases hN : NX words (s.data.toList.drop j) j with
        | fin =>
          rw [hN] at hlx
          go_wp2_with fail
          refine HNX.mono ?_
          rintro e w3 ⟨hg, hp⟩
          rw [hN] at hp
          obtain ⟨rfl, at1, _, hr3⟩ := hp
          have HO3 := Lib.hid (HO.out.kept hg (own_ne HO.out (by omega)))
          have HB3 := Lib.hid (below_gb HBE.out hg HBE.out.size (fun j hj => by injection hj with hj; have := HMM.out; omega))
          have HM3 := Lib.hid (HM.out.grown hg (by omega))
          obtain ⟨c0, c1, c2, c3, c4, f1, f3, f4⟩ := hr3.cells
          have hB3 := hr3.lt
          have HR3 := Lib.hid hr3
          have HLX := Lib.hid hlx
          clear HNX hN hg hr3 hlx HO HM HBE
          unfold tokV
          go_wp2
          refine bodyPost_ret (v := .tuple #[u8, .int .i64 0, .int .i64 0]) (by simp [results, Tryz.results6, go_sem]) rfl ?_
          refine ⟨_, _, _, rfl, HB3.out.alloc HB3.out.size _, ?_⟩
          rw [HLX.out]
          refine ⟨rfl, rfl, ?_⟩
          have := Toks.own (own_gb HO3.out (gb_alloc (gb_refl _ _) (.cells #[.int .i64 0, .string (bs []), .int .i64 0, .int .i64 0] 28)))
          rw [List.append_nil]
          exact this
        | bad p err =>
          rw [hN] at hlx
          go_wp2_with fail
          refine HNX.mono ?_
          rintro e w3 ⟨hg, hp⟩
          rw [hN] at hp
          obtain ⟨⟨k, tx, nn, aa, ok, rfl⟩, herr, at1, _, hr3⟩ := hp
          have HO3 := Lib.hid (HO.out.kept hg (own_ne HO.out (by omega)))
          have HB3 := Lib.hid (below_gb HBE.out hg HBE.out.size (fun j hj => by injection hj with hj; have := HMM.out; omega))
          have HM3 := Lib.hid (HM.out.grown hg (by omega))
          obtain ⟨c0, c1, c2, c3, c4, f1, f3, f4⟩ := hr3.cells
          have hB3 := hr3.lt
          have HR3 := Lib.hid hr3
          have HLX := Lib.hid hlx
          clear HNX hN hg hr3 hlx HO HM HBE
          unfold tokV
          have hd2 : (err != 0) = true := by simpa using herr
          have HERR := Lib.hid herr
          clear herr
          go_wp2
          go_quiet (fail)
          go_wp2
          refine bodyPost_ret (v := .tuple #[.slice none 0 0, .int .i64 p, .int .i64 err]) (by simp [results, Tryz.results6, go_sem]) rfl ?_
          refine ⟨_, _, _, rfl, below_dn (HB3.out.alloc HB3.out.size _) _, ?_⟩
          rw [HLX.out]
          exact ⟨rfl, rfl, rfl, HERR.out⟩
        | tok p g =>
          rw [hN] at hlx
          go_wp2_with fail
          refine HNX.mono ?_
          rintro e w3 ⟨hg, hp⟩
          rw [hN] at hp
          obtain ⟨rfl, hle, hr3⟩ := hp
          obtain ⟨r1, r2, -, -, -, r5, r6⟩ := NX_range hN
          rw [List.length_drop, size_list] at r2 r6
          have hpj : p < s.size := by omega
          have HO3 := Lib.hid (HO.out.kept hg (own_ne HO.out (by omega)))
          have HB3 := Lib.hid (below_gb HBE.out hg HBE.out.size (fun j hj => by injection hj with hj; have := HMM.out; omega))
          have HM3 := Lib.hid (HM.out.grown hg (by omega))
          obtain ⟨c0, c1, c2, c3, c4, f1, f3, f4⟩ := hr3.cells
          have hB3 := hr3.lt
          have HR3 := Lib.hid hr3
          have HLX := Lib.hid hlx
          clear HNX hN hg hr3 hlx HO HM HBE
          unfold tokV
          go_wp2_with (at_builtin; refine wpList_append_own _ rfl _ _ 22 rfl (M + 3) 28 i0 (.agg #[.int .i64 0, .string (bs []), .int .i64 0, .int .i64 0]) 4 40 Tryz.underlying22 hi hz0 hz1 hz2 rfl (by decide) _ _ _ rfl (own_gb HO3.out (gb_alloc (gb_alloc (gb_refl _ _) _) _)) ⟨w3.heap.size + 1, 0, none⟩ 1 1 (tkC ⟨g.kind, g.text, g.n, p⟩) rfl rfl (news_tok ⟨g.kind, g.text, g.n, p⟩ (Blk.new2 _ _ _ _)) (one_tok _) (by simp only [maxLen]; omega) (by omega) (by simp only [size_alloc]; omega) ?_)
          intro v' w' hown' hgrow _
          have hne := own_neS HO3.out (show M + 1 < M + 3 by omega)
          have hnm := own_neS HO3.out (show M < M + 3 by omega)
          have HO' := Lib.hid hown'
          have HB' := Lib.hid (below_gb ((HB3.out.alloc HB3.out.size _).alloc (by rw [size_alloc]; have := HB3.out.size; omega) _) hgrow (by simp only [size_alloc]; have := HB3.out.size; omega) (fun j hj => by have := (HO3.out.lt j hj).1; have := HMM.out; omega))
          have HR' := Lib.hid (((HR3.out.alloc _).alloc _).keep hgrow hne)
          have HM' := Lib.hid (WordMap.keep2 ((HM3.out.grown (World.grownBy_alloc _ _ (some (M + 1))) (by omega)).grown (World.grownBy_alloc _ _ (some (M + 1))) (by omega)) hgrow hnm)
          clear hown' hgrow hne hnm HO3 HB3 HR3 HM3 c0 c1 c2 c3 c4 f1 f3 f4
          go_wp2
          go_roundg (gk - 1)
          case measure => have := HK.out; omega
          case rel =>
            refine ⟨p + g.used, L0 ++ [⟨g.kind, g.text, g.n, p⟩], hle, by have := HK.out; omega, HR'.out, HM'.out, HB'.out, ?_, by simp; omega, ?_⟩
            · rw [tkCs_append, List.length_append]
              have e10 : ∀ t : Tk, tkCs [t] = tkC t := by intro t; simp [tkCs]
              rw [e10]
              exact HO'.out
            · rw [HLX.out, LXa_cons, List.drop_drop, show j + (p - j + g.used) = p + g.used from by omega]
    · have hd : decide ((i : Int) < 58) = true := by simp; omega
      obtain ⟨x, hx, hxc⟩ := word_cell hw (show i < 58 by omega)
      obtain ⟨c0, c1, c2, c3, c4, f1, f3, f4⟩ := hr.cells
      obtain ⟨wm, hrun, hm2, hgb⟩ := hm.update (bs x)
      have e5 : ((i : Nat) : Int).toNat = i := by omega
      have e6 : (0 : Int) ≤ i := by omega
      have e7 : (i : Int) < 58 := by omega
      have q1 : IntKind.i64.wrap ((i : Int) + 1) = (i : Int) + 1 := IntWalk.i64_in _ (by omega)
      have HK := Lib.hid hk
      have HBE := Lib.hid hbel
      have HRR := Lib.hid hr
      have HX := Lib.hid hx
      have HM2 := Lib.hid hm2
      have HGB := Lib.hid hgb
      have HW := Lib.hid hw
      clear hk hbel hr hx hm2 hgb hw hm hW hM hR hBel
      go_wp2
      go_roundg (gk - 1)
      case measure => have := HK.out; omega
      case rel =>
        refine ⟨i + 1, by have := HK.out; omega, by omega, by rfl, HRR.out.keep HGB.out (by simp), ?_, HW.out.keep HGB.out (by simp), below_gb HBE.out HGB.out HBE.out.size (fun j hj => by injection hj with hj; have := HMM.out; omega)⟩
        rw [List.take_add_one, HX.out]
        have := HM2.out
        rw [bs_toList] at this
        exact this
end Go.Proofs.YtfhiemficfibgaaGreatDoor
