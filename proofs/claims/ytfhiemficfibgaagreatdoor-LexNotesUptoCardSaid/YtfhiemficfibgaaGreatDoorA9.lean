/- A number is read: in the plain function's words. -/
import Derived.Test.YtfhiemficfibgaaGreatDoorA8
set_option linter.unusedVariables false
namespace Go.Proofs.YtfhiemficfibgaaGreatDoor
open Go.RowKit

theorem atoiV_nonneg (d : Bytes) (h : ∀ c ∈ d, isDigit (c.toNat : Int) = true) : 0 ≤ atoiV d := by
  cases d with
  | nil => simp [atoiV, Lib.atoiAll]
  | cons c r =>
    have hc := h c (by simp)
    simp [isDigit] at hc
    have h1 : ¬ c.toNat = 43 := by omega
    have h2 : ¬ c.toNat = 45 := by omega
    match hm : Lib.parseMag (c :: r) with
    | .ok u =>
      by_cases hu : 9223372036854775808 ≤ u
      · simp [atoiV, Lib.atoiAll, h1, h2, hm, hu, Lib.atoiSat]
      · simp [atoiV, Lib.atoiAll, h1, h2, hm, hu]
    | Lib.NumEnd.syntax => simp [atoiV, Lib.atoiAll, h1, h2, hm]
    | .range => simp [atoiV, Lib.atoiAll, h1, h2, hm, Lib.atoiSat]
theorem take_run_all (p : Int → Bool) (l : Bytes) : ∀ c ∈ l.take (run p l), p (c.toNat : Int) = true := by
  induction l with
  | nil => simp
  | cons x l ih =>
    intro c hc
    rw [run_cons] at hc
    split at hc
    · rename_i hx
      simp at hc
      rcases hc with rfl | hc
      · exact hx
      · exact ih c hc
    · simp at hc

/-- A number. -/
theorem number_any (B : Nat) (s : ByteArray) (at_ : Nat) (m : Nat) (w : World) (hr : Rdr w B s at_ m 0 0) (hs : s.size ≤ 2000000) (hat : at_ ≤ s.size) (hE : Env w) (hB12 : 12 ≤ B) (g : Got) (hg : numberL (s.data.toList.drop at_) = g) :
    Calls Tryz.prog 23 #[.pointer (some ⟨B, 0, none⟩)] w (ReadPost B s m at_ g w) := by
  obtain ⟨r, hrr⟩ : ∃ r, s.data.toList.drop at_ = r := ⟨_, rfl⟩
  rw [hrr] at hg
  obtain ⟨k, hk⟩ : ∃ k, run isDigit r = k := ⟨_, rfl⟩
  have hrl : r.length = s.size - at_ := by rw [← hrr, List.length_drop, size_list]
  have hkl : k ≤ r.length := by rw [← hk]; exact run_le _ _
  have hEE : runTo isDigit s at_ = at_ + k := by unfold runTo; rw [hrr, hk]
  have hdrop : ∀ j, s.data.toList.drop (at_ + j) = r.drop j := by intro j; rw [← hrr, List.drop_drop]
  have hD : s.extract at_ (at_ + k) = bs (r.take k) := by rw [bs_extract, hrr]
  have hDsz : (bs (r.take k)).size = k := by rw [bs_size, List.length_take]; omega
  have hlk : ∀ j, byteAt s (at_ + j) = lk r j := by intro j; rw [← hrr, lk_byteAt]
  have hD0 : byteAt (bs (r.take k)) 0 = lk (r.take k) 0 := by
    have := lk_byteAt (bs (r.take k)) 0 0
    rw [bs_toList] at this
    exact this.symm
  have hur := unitL_range (r.drop k)
  obtain ⟨u, k2, hu⟩ : ∃ u k2, unitL (r.drop k) = (u, k2) := ⟨_, _, rfl⟩
  rw [hu] at hur
  dsimp only at hur
  rw [List.length_drop] at hur
  obtain ⟨p, hp⟩ : ∃ p, run isDigit (r.drop (k + 1)) = p := ⟨_, rfl⟩
  have hpl : p ≤ (r.drop (k + 1)).length := by rw [← hp]; exact run_le _ _
  rw [List.length_drop] at hpl
  have hFF : runTo isDigit s (at_ + k + 1) = at_ + k + 1 + p := by
    unfold runTo
    rw [show at_ + k + 1 = at_ + (k + 1) from by omega, hdrop, hp]
  have hP : s.extract (at_ + k + 1) (at_ + k + 1 + p) = bs ((r.drop (k + 1)).take p) := by
    rw [show at_ + k + 1 = at_ + (k + 1) from by omega, bs_extract, hdrop]
  have hPsz : (bs ((r.drop (k + 1)).take p)).size = p := by rw [bs_size, List.length_take, List.length_drop]; omega
  have hbF : byteAt s (at_ + k + 1 + p) = lk (r.drop (k + 1 + p)) 0 := by
    rw [show at_ + k + 1 + p = at_ + (k + 1 + p) from by omega, hlk, lk_drop]
    rfl
  have hbE : byteAt s (at_ + k) = lk (r.drop k) 0 := by rw [hlk, lk_drop]; rfl
  have hbE1 : byteAt s (at_ + k + 1) = lk (r.drop k) 1 := by rw [show at_ + k + 1 = at_ + (k + 1) from by omega, hlk, lk_drop]
  obtain ⟨d2, hd2⟩ : ∃ d2, r.take k ++ (r.drop (k + 1)).take p ++ Lib.repeatL [48] (4 - p) = d2 := ⟨_, rfl⟩
  refine number_core B s at_ m w hr hs hat hE hB12 g (at_ + k) (Lib.hid hEE) (by omega) (bs (r.take k)) (Lib.hid hD) (by omega) _ _ (Lib.hid rfl) (Lib.hid rfl) _ (Lib.hid rfl) ?_ u k2 (Lib.hid (by rw [hdrop, hu])) hur.1 (by omega) hur.2.2 _ (Lib.hid rfl) (by omega)
    _ (Lib.hid rfl) (Lib.hid ?_) ?_ (at_ + k + 1 + p) (Lib.hid hFF) (by omega) (by omega) (bs ((r.drop (k + 1)).take p)) (Lib.hid hP) _ (Lib.hid rfl) ?_ _ _ (bs d2) (Lib.hid (by rw [bs_toList, bs_toList, bs_toList, hPsz, hd2])) (Lib.hid rfl) (Lib.hid rfl) ?_ (Lib.hid ?_)
  · rw [bs_toList, ← hk]
    exact atoiV_nonneg _ (take_run_all _ _)
  · intro h0 h
    rw [hbE, hbE1] at h
    rw [bs_toList, hDsz, hD0, hbE, ← hg, numberL_int r (by rw [hk, hu]; simp [h0]) (by rw [hk]; exact h), hk]
    simp
  · intro h
    rw [hbE] at h
    have : lk (r.drop k) 0 ≠ 0 := by
      intro h0
      rw [h0] at h
      simp at h
    have := lk_lt _ _ this
    rw [List.length_drop] at this
    omega
  · intro h0 h h3
    rw [hbE, hbE1] at h
    rw [hPsz, hbF] at h3
    rw [hDsz, hD0, ← hg, numberL_decbad r (by rw [hk, hu]; simp [h0]) (by rw [hk]; exact h) (by rw [hk, hp]; exact h3), hk, hp]
    simp
    omega
  · intro h0 h h3
    rw [hbE, hbE1] at h
    have h3' := h3
    rw [hPsz, hbF] at h3'
    have hlt : isLetter (byteAt s (at_ + k + 1 + p)) = false := by
      rw [Bool.or_eq_false_iff] at h3
      exact h3.2
    rw [hDsz, hD0, ← hg, bs_toList, hlt, numberL_dec r (by rw [hk, hu]; simp [h0]) (by rw [hk]; exact h) (by rw [hk, hp]; exact h3') d2 (by rw [hk, hp]; exact hd2), hk, hp]
    simp [failE_zero]
    omega
  · intro h
    rw [← hg, numberL_period r (by rw [hk, hu]; exact h), hk, hu, hDsz, hD0, bs_toList]
    simp [PerBad]
    omega
end Go.Proofs.YtfhiemficfibgaaGreatDoor
