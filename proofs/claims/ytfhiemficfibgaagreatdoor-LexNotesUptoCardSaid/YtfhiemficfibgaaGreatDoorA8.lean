/- A number is read. -/
import Derived.Test.YtfhiemficfibgaaGreatDoorA7
set_option linter.unusedVariables false
namespace Go.Proofs.YtfhiemficfibgaaGreatDoor
open Go.RowKit

/-- The way of a period: behind its unit. -/
def PerBad (over : Bool) (u v : Int) : Bool := over || decide (1099511627776 / u < v)

theorem failE_zero (e : Int) : failE e 0 = e := by
  unfold failE
  split <;> simp_all

theorem failE_if {e x : Int} {b : Bool} (hx : x ≠ 0) (h : failE e (if b = true then x else 0) = 0) : b = false := by
  cases b
  · rfl
  · unfold failE at h
    split at h
    · exact absurd h hx
    · exact absurd h (by assumption)
theorem perGood {over : Bool} {u v : Int} (hv : 0 ≤ v) (hu : 1 ≤ u) (h : PerBad over u v = false) : 0 ≤ v * u ∧ v * u ≤ 1099511627776 := by
  simp [PerBad] at h
  have h2 := h.2
  have h3 : v * u ≤ (1099511627776 / u) * u := Int.mul_le_mul_of_nonneg_right h2 (by omega)
  have h4 : (1099511627776 / u) * u ≤ 1099511627776 := Int.ediv_mul_le _ (by omega)
  exact ⟨Int.mul_nonneg hv (by omega), by omega⟩

set_option maxRecDepth 100000 in
set_option maxHeartbeats 2000000 in
theorem number_core (B : Nat) (s : ByteArray) (at_ : Nat) (m : Nat) (w : World) (hr : Rdr w B s at_ m 0 0) (hs : s.size ≤ 2000000) (hat : at_ ≤ s.size) (hE : Env w) (hB12 : 12 ≤ B) (g : Got)
    (E : Nat) (hEE : Hid (runTo isDigit s at_ = E)) (hEs : E ≤ s.size) (D : ByteArray) (hD : Hid (s.extract at_ E = D)) (hDs : D.size ≤ 2000000) (v : Int) (over : Bool) (hv : Hid (atoiV D.data.toList = v)) (ho : Hid (atoiOver D.data.toList = over))
    (lead : Bool) (hlead : Hid ((decide (1 < D.size) && (byteAt D 0 == 48)) = lead)) (hv0 : 0 ≤ v)
    (u : Int) (k2 : Nat) (hU : Hid (unitL (s.data.toList.drop E) = (u, k2))) (hk2 : k2 ≤ 2) (hk2s : E + k2 ≤ s.size) (hu : 0 < k2 → 1 ≤ u ∧ u ≤ 86400000) (e0 : Int) (he0 : Hid ((if lead = true then 50 else 0) = e0)) (hatE : at_ ≤ E)
    (dec : Bool) (hdec : Hid ((byteAt s E == 46 && isDigit (byteAt s (E + 1))) = dec)) (hint : Hid (k2 = 0 → dec = false → g = ⟨3, [], v, E - at_, failE (failE e0 (if isLetter (byteAt s E) = true then 50 else 0)) (if over = true then 51 else 0)⟩))
    (hdlt : dec = true → E < s.size) (F : Nat) (hF : Hid (runTo isDigit s (E + 1) = F)) (hFE : E + 1 ≤ F) (hFs : E < s.size → F ≤ s.size) (P : ByteArray) (hP : Hid (s.extract (E + 1) F = P)) (badp : Bool) (hbadp : Hid ((decide (4 < P.size) || isLetter (byteAt s F)) = badp))
    (hdecb : k2 = 0 → dec = true → badp = true → g = ⟨4, [], 0, F - at_, failE e0 50⟩)
    (v2 : Int) (over2 : Bool) (D2 : ByteArray) (hD2 : Hid (D.data.toList ++ P.data.toList ++ Lib.repeatL [48] (4 - P.size) = D2.data.toList)) (hv2 : Hid (atoiV D2.data.toList = v2)) (hov2 : Hid (atoiOver D2.data.toList = over2))
    (hdecg : k2 = 0 → dec = true → badp = false → g = ⟨4, [], v2, F - at_, failE (failE e0 (if isLetter (byteAt s F) = true then 50 else 0)) (if over2 = true then 51 else 0)⟩)
    (hper : Hid (0 < k2 → g = ⟨7, [], v * u, E + k2 - at_, failE e0 (if PerBad over u v = true then 51 else 0)⟩)) :
    Calls Tryz.prog 23 #[.pointer (some ⟨B, 0, none⟩)] w (ReadPost B s m at_ g w) := by
  have hB := hr.lt
  obtain ⟨c0, c1, c2, c3, c4, f1, f3, f4⟩ := hr.cells
  have HR := Lib.hid hr
  have HE := Lib.hid hE
  clear hr hE
  go_enter Tryz.func23, Tryz.ntmps23
  go_wp2_with fail
  refine (while_any 22 isDigit tells_digit B s at_ m 0 0 _ ((HR.out.alloc _).alloc _) hs hat).mono ?_
  rintro e w1 ⟨rfl, hr1, hg1⟩
  rw [hEE.out, hD.out]
  rw [hEE.out] at hr1
  have hN1 := (Blk.new2 w _ _ _).keep hg1 (by simp; omega)
  have hN0 := ((Blk.new w _ _).alloc _).keep hg1 (by simp; omega)
  have HG1 := Lib.hid (gb_trans (gb_alloc (gb_alloc (gb_refl w (some B)) _) _) hg1)
  clear hg1
  go_wp2_with fail
  refine (atoi_any D (by omega) v over hv.out ho.out _ (HE.out.gb HG1.out hB12)).mono ?_
  rintro e w2 ⟨ev, rfl, hev0, hev1, hb2⟩
  have hN1 := hN1.below hb2
  have hN0 := hN0.below hb2
  have hr1 := hr1.below hb2
  have HG2 := Lib.hid (gb_below HG1.out hb2)
  have HE2 := Lib.hid (HE.out.gb HG2.out hB12)
  clear hb2 c0 c1 c2 c3 c4 f1 f3 f4 HG1
  obtain ⟨t0, t1, t2, t3, g0, g1, g2, g3, hl1⟩ := tok_cells hN1
  have HN1 := Lib.hid hN1
  have HN0 := Lib.hid hN0
  have HR2 := Lib.hid hr1
  clear hN1 hN0 hr1
  have hneq : ∀ W : World, (binOp .neq 58 ev .nilIface).run Tryz.prog W = .ok (.bool over) W := by
    intro W
    cases over
    · rw [hev0 rfl]
      exact run_neq_nil_nil _ _ (by kernel_rfl)
    · obtain ⟨p, rfl⟩ := hev1 rfl
      exact run_neq_held_nil _ _ _ _ (by kernel_rfl)
  have hgrd : ∀ (W : World), (eqGuard .neq 58 (.tmp 23) (.const .nilIface) ev .nilIface).run Tryz.prog W = .ok () W := by
    intro W
    cases over
    · rw [hev0 rfl]
      simp [eqGuard]
    · obtain ⟨p, rfl⟩ := hev1 rfl
      simp [eqGuard]
  clear hev0 hev1
  go_upto_region 5 with fail
  go_cut [32] (fun s32 wx => s32 = .bool lead ∧ wx = w2)
  case first =>
    by_cases h1 : 1 < D.size
    · have hb := byteAt_in D 0 (by omega)
      have h1' : decide (1 < D.size) = true := by simpa using h1
      have HL : Hid ((byteAt D 0 == 48) = lead) := by
        have := hlead.out
        rw [h1'] at this
        exact this
      go_wp2_with fail
      go_meet
      refine ⟨?_, rfl⟩
      rw [← HL.out, ← hb]
    · have h1' : decide (1 < D.size) = false := by simpa using h1
      have HL : Hid (false = lead) := by
        have := hlead.out
        rw [h1'] at this
        exact this
      go_wp2_with fail
      go_meet
      refine ⟨?_, rfl⟩
      rw [← HL.out]
  case rest =>
    obtain ⟨rfl, hw⟩ := hcut
    subst hw
    go_upto_if 32 with fail
    go_cut [] (fun wx => NumSt B s m at_ w wx E (if lead = true then 50 else 0) 3 0)
    case first =>
      cases lead
      · go_wp2_with fail
        go_meet
        exact ⟨HR2.out, HN1.out, HN0.out, HG2.out⟩
      · go_wp2_with fail
        refine (fail_at B s E m 0 at_ 50 _ HR2.out (by decide)).mono ?_
        rintro e w3 ⟨rfl, hr3, hg3⟩
        have HR3 := Lib.hid hr3
        have HG3 := Lib.hid hg3
        clear hr3 hg3
        go_wp2_with fail
        go_meet
        exact ⟨HR3.out, HN1.out.keep HG3.out (by simp; omega), HN0.out.keep HG3.out (by simp; omega), gb_trans HG2.out HG3.out⟩
    case rest =>
      rw [he0.out] at hcut
      have HS := Lib.hid hcut
      clear hcut HN1 HN0 HR2 HG2 HE2 t0 t1 t2 t3 g0 g1 g2 g3 hl1
      go_wp2_with fail
      refine (unit_any B s E m e0 (bOf at_ e0) _ HS.out.rdr hs hEs (u, k2) hU.out).mono ?_
      rintro e w4 ⟨rfl, hr4, hg4⟩
      have HS4 := Lib.hid (HS.out.gb hB hr4 hg4)
      clear hr4 hg4 HS
      dsimp only
      by_cases hp : 0 < k2
      · have hp' : decide ((0 : Int) < k2) = true := by simp; omega
        obtain ⟨hu1, hu2⟩ := hu hp
        have q1 : IntKind.i64.wrap ((E : Int) + k2) = (E : Int) + k2 := IntWalk.i64_in _ (by omega)
        obtain ⟨c0, c1, c2, c3, c4, f1, f3, f4⟩ := HS4.out.rdr.cells
        obtain ⟨t0, t1, t2, t3, g0, g1, g2, g3, hl1⟩ := tok_cells HS4.out.tok
        have HS5 := Lib.hid (HS4.out.at_to hB (E + k2))
        rw [show ((E + k2 : Nat) : Int) = (E : Int) + k2 from by omega] at HS5
        go_upto_region 10 with fail
        go_cut [58] (fun s58 wx => s58 = .bool (PerBad over u v) ∧ NumSt B s m at_ w wx (E + k2) e0 3 0)
        case first =>
          clear c0 c1 c2 c3 c4 f1 f3 f4 t0 t1 t2 t3 g0 g1 g2 g3 hl1
          cases over
          · go_wp2_with fail
            go_meet
            exact ⟨by simp [PerBad], HS5.out⟩
          · go_wp2_with fail
            go_meet
            exact ⟨by simp [PerBad], HS5.out⟩
        case rest =>
          obtain ⟨rfl, hS⟩ := hcut
          have HS6 := Lib.hid hS
          clear hS HS5 HS4 c0 c1 c2 c3 c4 f1 f3 f4 t0 t1 t2 t3 g0 g1 g2 g3 hl1
          obtain ⟨pb, hpb⟩ : ∃ b, PerBad over u v = b := ⟨_, rfl⟩
          rw [hpb]
          have HPB := Lib.hid hpb
          clear hpb
          go_upto_if 58 with fail
          go_cut [] (fun wx => NumSt B s m at_ w wx (E + k2) (failE e0 (if pb = true then 51 else 0)) 3 0)
          case first =>
            obtain ⟨t0, t1, t2, t3, g0, g1, g2, g3, hl1⟩ := tok_cells HS6.out.tok
            cases pb
            · go_wp2_with fail
              go_meet
              have := HS6.out
              rw [show failE e0 (if false = true then 51 else 0) = e0 from failE_zero e0]
              exact this
            · go_wp2_with fail
              refine (fail_at B s (E + k2) m e0 at_ 51 _ HS6.out.rdr (by decide)).mono ?_
              rintro e w7 ⟨rfl, hr7, hg7⟩
              have HS7 := Lib.hid (HS6.out.gb hB hr7 hg7)
              clear hr7 hg7 t0 t1 t2 t3 g0 g1 g2 g3 hl1
              go_wp2_with fail
              go_meet
              exact HS7.out
          case rest =>
            have HS8 := Lib.hid hcut
            clear hcut HS6
            obtain ⟨t0, t1, t2, t3, g0, g1, g2, g3, hl1⟩ := tok_cells HS8.out.tok
            obtain ⟨u0, u1, u2, u3, v0, v1, v2, v3, hl0⟩ := tok_cells HS8.out.res
            go_wp2
            refine bodyPost_ret (v := tokV 7 (bs []) (wrap64 (v * u)) at_) (by simp [results, Tryz.results23, go_sem, u0, u1, u2, u3, tokV]) rfl ?_
            obtain ⟨o1, o2⟩ := ((HS8.out.kind hB 7).num hB (wrap64 (v * u))).out hB (.int .i64 7) (.string (bs [])) (.int .i64 (wrap64 (v * u))) (.int .i64 at_)
            have hg' := hper.out hp
            rw [HPB.out] at hg'
            have hul : at_ + (E + k2 - at_) = E + k2 := by omega
            subst hg'
            refine ReadPost.of 7 (bs []) (wrap64 (v * u)) at_ rfl ?_ (by dsimp only; omega) (by dsimp only; rw [hul]; exact o1) o2
            intro herr
            refine ⟨rfl, rfl, ?_, rfl⟩
            have hpbf : pb = false := failE_if (by decide) herr
            subst hpbf
            have hin := perGood hv0 hu1 HPB.out
            exact IntWalk.wrap64_in _ ⟨by omega, by omega⟩
      · obtain rfl : k2 = 0 := by omega
        have hintH := Lib.hid (hint.out rfl)
        have hdecbH := Lib.hid (hdecb rfl)
        have hdecgH := Lib.hid (hdecg rfl)
        clear hint hdecb hdecg
        have hp' : decide ((0 : Int) < ((0 : Nat) : Int)) = false := by simp
        obtain ⟨c0, c1, c2, c3, c4, f1, f3, f4⟩ := HS4.out.rdr.cells
        go_upto_region 14 with fail
        go_cut [76] (fun s76 wx => s76 = .bool dec ∧ NumSt B s m at_ w wx E e0 3 0)
        case first =>
          obtain ⟨x0, hx0⟩ : ∃ x, byteAt s E = x := ⟨_, rfl⟩
          obtain ⟨x1, hx1⟩ : ∃ x, byteAt s (E + 1) = x := ⟨_, rfl⟩
          have HD := hdec.out
          rw [hx0, hx1] at HD
          have HDec := Lib.hid HD
          clear HD
          have L0 : ∀ W : World, Rdr W B s E m e0 (bOf at_ e0) → Calls Tryz.prog 37 #[.pointer (some ⟨B, 0, none⟩), .int .i64 0] W fun e w' => e = .returned (.int .u8 x0) ∧ ∃ n, w' = W.drewN n := by
            intro W h
            have := look_any B s E m e0 (bOf at_ e0) 0 W h hs hEs (by omega)
            rw [Nat.add_zero, hx0] at this
            exact this
          have L1 : ∀ W : World, Rdr W B s E m e0 (bOf at_ e0) → Calls Tryz.prog 37 #[.pointer (some ⟨B, 0, none⟩), .int .i64 1] W fun e w' => e = .returned (.int .u8 x1) ∧ ∃ n, w' = W.drewN n := by
            intro W h
            have := look_any B s E m e0 (bOf at_ e0) 1 W h hs hEs (by omega)
            rw [hx1] at this
            exact this
          have HL0 := Lib.hid L0
          have HL1 := Lib.hid L1
          clear L0 L1 hx0 hx1 c0 c1 c2 c3 c4 f1 f3 f4
          by_cases h46 : x0 = 46
          · have hb : (x0 == 46) = true := by simpa using h46
            have HDec' : Hid (isDigit x1 = dec) := by
              have := HDec.out
              rw [hb] at this
              exact this
            clear h46
            go_wp2_with fail
            refine (HL0.out _ HS4.out.rdr).mono ?_
            rintro e w5 ⟨rfl, n5, rfl⟩
            go_wp2_with fail
            refine (HL1.out _ (HS4.out.rdr.drewN _)).mono ?_
            rintro e w6 ⟨rfl, n6, rfl⟩
            go_wp2_with fail
            refine (digit_any _ _).mono ?_
            rintro e w7 ⟨rfl, rfl⟩
            go_wp2_with fail
            go_meet
            exact ⟨by rw [HDec'.out], HS4.out.drewN _⟩
          · have hb : (x0 == 46) = false := by simpa using h46
            have HDec' : Hid (false = dec) := by
              have := HDec.out
              rw [hb] at this
              exact this
            clear h46
            go_wp2_with fail
            refine (HL0.out _ HS4.out.rdr).mono ?_
            rintro e w5 ⟨rfl, n5, rfl⟩
            go_wp2_with fail
            go_meet
            exact ⟨by rw [← HDec'.out], HS4.out.drewN _⟩
        case rest =>
          obtain ⟨rfl, hS⟩ := hcut
          have HS5 := Lib.hid hS
          clear hS HS4 c0 c1 c2 c3 c4 f1 f3 f4
          go_upto_if 76 with fail
          go_cut [5, 7] (fun s5 s7 wx => ∃ (k n2 : Int) (F : Nat) (over2 : Bool), s5 = .int .i64 n2 ∧ s7 = .bool over2 ∧ at_ ≤ F ∧ F ≤ s.size ∧ NumSt B s m at_ w wx F e0 k 0 ∧ g = ⟨k, [], n2, F - at_, failE (failE e0 (if isLetter (byteAt s F) = true then 50 else 0)) (if over2 = true then 51 else 0)⟩)
          case first =>
            cases dec
            · have hg0 := Lib.hid (hintH.out rfl)
              clear hintH hdecbH hdecgH
              go_wp2_with fail
              go_meet
              exact ⟨3, v, E, over, rfl, rfl, hatE, hEs, HS5.out, hg0.out⟩
            · have hE46 : E < s.size := hdlt rfl
              have hFs := hFs hE46
              have hb0 := Lib.hid (hdecbH.out rfl)
              have hg0 := Lib.hid (hdecgH.out rfl)
              clear hintH hdecbH hdecgH
              obtain ⟨c0, c1, c2, c3, c4, f1, f3, f4⟩ := HS5.out.rdr.cells
              have q1 : IntKind.i64.wrap ((E : Int) + 1) = (E : Int) + 1 := IntWalk.i64_in _ (by omega)
              have HS6 := Lib.hid (HS5.out.at_to hB (E + 1))
              rw [show ((E + 1 : Nat) : Int) = (E : Int) + 1 from by omega] at HS6
              go_wp2_with fail
              refine (while_any 22 isDigit tells_digit B s (E + 1) m e0 (bOf at_ e0) _ HS6.out.rdr hs (by omega)).mono ?_
              rintro e w7 ⟨rfl, hr7, hg7⟩
              rw [hF.out, hP.out]
              rw [hF.out] at hr7
              have HS7 := Lib.hid ((HS6.out.gb hB hr7 hg7).kind hB 4)
              obtain ⟨t0, t1, t2, t3, g0, g1, g2, g3, hl1⟩ := tok_cells (HS6.out.gb hB hr7 hg7).tok
              clear hr7 hg7 c0 c1 c2 c3 c4 f1 f3 f4 HS6
              go_upto_region 18 with fail
              go_cut [94] (fun s94 wx => s94 = .bool badp ∧ NumSt B s m at_ w wx F e0 4 0)
              case first =>
                obtain ⟨x0, hx0⟩ : ∃ x, byteAt s F = x := ⟨_, rfl⟩
                have HBP := hbadp.out
                rw [hx0] at HBP
                have HBad := Lib.hid HBP
                clear HBP
                have L0 : ∀ W : World, Rdr W B s F m e0 (bOf at_ e0) → Calls Tryz.prog 37 #[.pointer (some ⟨B, 0, none⟩), .int .i64 0] W fun e w' => e = .returned (.int .u8 x0) ∧ ∃ n, w' = W.drewN n := by
                  intro W h
                  have := look_any B s F m e0 (bOf at_ e0) 0 W h hs hFs (by omega)
                  rw [Nat.add_zero, hx0] at this
                  exact this
                have HL0 := Lib.hid L0
                clear L0 hx0
                by_cases h4 : 4 < P.size
                · have h4' : decide (4 < P.size) = true := by simpa using h4
                  have HB' : Hid (true = badp) := by
                    have := HBad.out
                    rw [h4'] at this
                    exact this
                  go_wp2_with fail
                  go_meet
                  exact ⟨by rw [← HB'.out], HS7.out⟩
                · have h4' : decide (4 < P.size) = false := by simpa using h4
                  have h4i : decide ((4 : Int) < P.size) = false := by simp; omega
                  have HB' : Hid (isLetter x0 = badp) := by
                    have := HBad.out
                    rw [h4'] at this
                    exact this
                  go_wp2_with fail
                  refine (HL0.out _ HS7.out.rdr).mono ?_
                  rintro e w8 ⟨rfl, n8, rfl⟩
                  go_wp2_with fail
                  refine (letter_any _ _).mono ?_
                  rintro e w9 ⟨rfl, rfl⟩
                  go_wp2_with fail
                  go_meet
                  exact ⟨by rw [HB'.out], HS7.out.drewN _⟩
              case rest =>
                obtain ⟨rfl, hS⟩ := hcut
                have HS8 := Lib.hid hS
                clear hS HS7 t0 t1 t2 t3 g0 g1 g2 g3 hl1
                obtain ⟨t0, t1, t2, t3, g0, g1, g2, g3, hl1⟩ := tok_cells HS8.out.tok
                cases badp
                · have hg1 := Lib.hid (hg0.out rfl)
                  have hP4 : P.size ≤ 4 := by
                    have := hbadp.out
                    simp at this
                    omega
                  have REP : ∀ W : World, Calls Tryz.prog 38 #[.string (bs [48]), .int .i64 (4 - (P.size : Int))] W fun e w' => e = .returned (.string (bs (Lib.repeatL [48] (4 - P.size)))) ∧ Below W.heap.size W w' := by
                    intro W
                    rw [show (4 - (P.size : Int)) = ((4 - P.size : Nat) : Int) from by omega]
                    exact repeat_any (4 - P.size) (by omega) W
                  have HREP := Lib.hid REP
                  have hrs : (Lib.repeatL [48] (4 - P.size)).length ≤ 4 := by rw [Lib.repeatL_length]; simp
                  obtain ⟨Z, hZ⟩ : ∃ Z, bs (Lib.repeatL [48] (4 - P.size)) = Z := ⟨_, rfl⟩
                  have hzs : Z.size ≤ 4 := by rw [← hZ, bs_size]; exact hrs
                  have HZ := Lib.hid hZ
                  clear hb0 hg0 REP hZ hrs
                  go_wp2_with fail
                  refine (HREP.out _).mono ?_
                  rintro e w9 ⟨rfl, hb9⟩
                  rw [HZ.out]
                  have HS9 := Lib.hid (HS8.out.below hb9)
                  clear hb9 t0 t1 t2 t3 g0 g1 g2 g3 hl1
                  go_wp2_with fail
                  have hdl : (D ++ P ++ Z).data.toList = D2.data.toList := by
                    rw [← hD2.out, ← HZ.out]
                    simp [bs]
                  have hds : (D ++ P ++ Z).size ≤ 281474976710656 := by
                    simp
                    omega
                  refine (atoi_any (D ++ P ++ Z) hds v2 over2 (by rw [hdl]; exact hv2.out) (by rw [hdl]; exact hov2.out) _ (HE.out.gb HS9.out.grown hB12)).mono ?_
                  rintro e w10 ⟨ev2, rfl, hev0, hev1, hb10⟩
                  have HS10 := Lib.hid (HS9.out.below hb10)
                  have hneq2 : ∀ W : World, (binOp .neq 58 ev2 .nilIface).run Tryz.prog W = .ok (.bool over2) W := by
                    intro W
                    cases over2
                    · rw [hev0 rfl]
                      exact run_neq_nil_nil _ _ (by kernel_rfl)
                    · obtain ⟨p, rfl⟩ := hev1 rfl
                      exact run_neq_held_nil _ _ _ _ (by kernel_rfl)
                  have hgrd2 : ∀ W : World, (eqGuard .neq 58 (.tmp 112) (.const .nilIface) ev2 .nilIface).run Tryz.prog W = .ok () W := by
                    intro W
                    cases over2
                    · rw [hev0 rfl]
                      simp [eqGuard]
                    · obtain ⟨p, rfl⟩ := hev1 rfl
                      simp [eqGuard]
                  clear hev0 hev1 hb10 hdl hds hneq hgrd
                  go_wp2_with fail
                  go_meet
                  exact ⟨4, v2, F, over2, rfl, rfl, by omega, hFs, HS10.out, hg1.out⟩
                · have hg1 := Lib.hid (hb0.out rfl)
                  clear hb0 hg0
                  go_wp2_with fail
                  refine (fail_at B s F m e0 at_ 50 _ HS8.out.rdr (by decide)).mono ?_
                  rintro e w9 ⟨rfl, hr9, hg9⟩
                  have HS9 := Lib.hid (HS8.out.gb hB hr9 hg9)
                  clear hr9 hg9 t0 t1 t2 t3 g0 g1 g2 g3 hl1
                  obtain ⟨t0, t1, t2, t3, g0, g1, g2, g3, hl1⟩ := tok_cells HS9.out.tok
                  obtain ⟨u0, u1, u2, u3, v0, v1, v2, v3, hl0⟩ := tok_cells HS9.out.res
                  go_wp2
                  refine bodyPost_ret (v := tokV 4 (bs []) 0 at_) (by simp [results, Tryz.results23, go_sem, u0, u1, u2, u3, tokV]) rfl ?_
                  obtain ⟨o1, o2⟩ := HS9.out.out hB (.int .i64 4) (.string (bs [])) (.int .i64 0) (.int .i64 at_)
                  have hul : at_ + (F - at_) = F := by omega
                  have hg' := hg1.out
                  subst hg'
                  refine ReadPost.of 4 (bs []) 0 at_ rfl (fun _ => ⟨rfl, rfl, rfl, rfl⟩) (by dsimp only; omega) (by dsimp only; rw [hul]; exact o1) o2
          case rest =>
            obtain ⟨k, n2, F', over3, rfl, rfl, hf1, hf2, hS, hg'⟩ := hcut
            have HS11 := Lib.hid hS
            have HG' := Lib.hid hg'
            clear hS hg' HS5 hintH hdecbH hdecgH hneq hgrd
            obtain ⟨x0, hx0⟩ : ∃ x, byteAt s F' = x := ⟨_, rfl⟩
            rw [hx0] at HG'
            have L0 : ∀ W : World, Rdr W B s F' m e0 (bOf at_ e0) → Calls Tryz.prog 37 #[.pointer (some ⟨B, 0, none⟩), .int .i64 0] W fun e w' => e = .returned (.int .u8 x0) ∧ ∃ n, w' = W.drewN n := by
              intro W h
              have := look_any B s F' m e0 (bOf at_ e0) 0 W h hs hf2 (by omega)
              rw [Nat.add_zero, hx0] at this
              exact this
            have HL0 := Lib.hid L0
            clear L0 hx0
            obtain ⟨xl, hxl⟩ : ∃ b, isLetter x0 = b := ⟨_, rfl⟩
            rw [hxl] at HG'
            have HXL := Lib.hid hxl
            clear hxl
            go_wp2_with fail
            refine (HL0.out _ HS11.out.rdr).mono ?_
            rintro e w12 ⟨rfl, n12, rfl⟩
            go_wp2_with fail
            refine (letter_any _ _).mono ?_
            rintro e w13 ⟨rfl, rfl⟩
            rw [HXL.out]
            have HS13 := Lib.hid (HS11.out.drewN n12)
            clear HS11
            go_upto_if 116 with fail
            go_cut [] (fun wx => NumSt B s m at_ w wx F' (failE e0 (if xl = true then 50 else 0)) k 0)
            case first =>
              obtain ⟨t0, t1, t2, t3, g0, g1, g2, g3, hl1⟩ := tok_cells HS13.out.tok
              cases xl
              · go_wp2_with fail
                go_meet
                have := HS13.out
                rw [show failE e0 (if false = true then 50 else 0) = e0 from failE_zero e0]
                exact this
              · go_wp2_with fail
                refine (fail_at B s F' m e0 at_ 50 _ HS13.out.rdr (by decide)).mono ?_
                rintro e w14 ⟨rfl, hr14, hg14⟩
                have HS14 := Lib.hid (HS13.out.gb hB hr14 hg14)
                clear hr14 hg14 t0 t1 t2 t3 g0 g1 g2 g3 hl1
                go_wp2_with fail
                go_meet
                exact HS14.out
            case rest =>
              obtain ⟨e1, he1⟩ : ∃ e1, failE e0 (if xl = true then 50 else 0) = e1 := ⟨_, rfl⟩
              rw [he1] at hcut HG'
              have HS15 := Lib.hid hcut
              clear hcut he1 HS13
              go_upto_if 121 with fail
              go_cut [] (fun wx => NumSt B s m at_ w wx F' (failE e1 (if over3 = true then 51 else 0)) k 0)
              case first =>
                obtain ⟨t0, t1, t2, t3, g0, g1, g2, g3, hl1⟩ := tok_cells HS15.out.tok
                cases over3
                · go_wp2_with fail
                  go_meet
                  have := HS15.out
                  rw [show failE e1 (if false = true then 51 else 0) = e1 from failE_zero e1]
                  exact this
                · go_wp2_with fail
                  refine (fail_at B s F' m e1 at_ 51 _ HS15.out.rdr (by decide)).mono ?_
                  rintro e w16 ⟨rfl, hr16, hg16⟩
                  have HS16 := Lib.hid (HS15.out.gb hB hr16 hg16)
                  clear hr16 hg16 t0 t1 t2 t3 g0 g1 g2 g3 hl1
                  go_wp2_with fail
                  go_meet
                  exact HS16.out
              case rest =>
                obtain ⟨e2, he2⟩ : ∃ e2, failE e1 (if over3 = true then 51 else 0) = e2 := ⟨_, rfl⟩
                rw [he2] at hcut HG'
                have HS17 := Lib.hid hcut
                clear hcut he2 HS15
                obtain ⟨t0, t1, t2, t3, g0, g1, g2, g3, hl1⟩ := tok_cells HS17.out.tok
                obtain ⟨u0, u1, u2, u3, v0, v1, v2', v3, hl0⟩ := tok_cells HS17.out.res
                go_wp2
                refine bodyPost_ret (v := tokV k (bs []) n2 at_) (by simp [results, Tryz.results23, go_sem, u0, u1, u2, u3, tokV]) rfl ?_
                obtain ⟨o1, o2⟩ := (HS17.out.num hB n2).out hB (.int .i64 k) (.string (bs [])) (.int .i64 n2) (.int .i64 at_)
                have hul : at_ + (F' - at_) = F' := by omega
                have hg'' := HG'.out
                subst hg''
                refine ReadPost.of k (bs []) n2 at_ rfl (fun _ => ⟨rfl, rfl, rfl, rfl⟩) (by dsimp only; omega) (by dsimp only; rw [hul]; exact o1) o2
end Go.Proofs.YtfhiemficfibgaaGreatDoor
