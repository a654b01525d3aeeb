/- The next token, plainly: how far blanks and notes go. -/
import Derived.Test.YtfhiemficfibgaaGreatDoorB1
namespace Go.Proofs.YtfhiemficfibgaaGreatDoor

theorem index_fits (sub : Bytes) : ∀ (l : Bytes), 0 ≤ Lib.index l sub → (Lib.index l sub).toNat + sub.length ≤ l.length
  | [], h => by
    unfold Lib.index at h ⊢
    split at h
    · rename_i he
      simp at he
      simp [he]
    · omega
  | b :: l, h => by
    unfold Lib.index at h ⊢
    split
    · rename_i hp
      have := (List.isPrefixOf_iff_prefix.1 hp).length_le
      simp at this ⊢
      omega
    · rename_i hp
      rw [if_neg hp] at h
      split at h
      · omega
      · rename_i h1
        rw [if_neg h1]
        have h2 : 0 ≤ Lib.index l sub := by
          have := Lib.index_ge l sub
          have : Lib.index l sub ≠ -1 := fun e => h1 (by rw [e]; rfl)
          omega
        have := index_fits sub l h2
        simp
        omega

theorem skipL_range {r : Bytes} {k : Nat} (hr : r ≠ []) (h : skipL r = .by_ k) : 1 ≤ k ∧ k ≤ r.length := by
  have hl : 1 ≤ r.length := by cases r <;> simp_all
  unfold skipL at h
  split at h
  · injection h with h
    omega
  split at h
  · rename_i hp
    injection h with h
    have h1 := run_le notLine r
    cases r with
    | nil => exact absurd rfl hr
    | cons c r =>
      rw [run_cons] at h
      have hc : c = 45 := by
        simp [Lib.hasPrefix] at hp
        exact hp.1.symm
      subst hc
      rw [if_pos (by decide)] at h
      rw [run_cons, if_pos (by decide)] at h1
      omega
  split at h
  · rename_i hp
    split at h
    · cases h
    · rename_i hi
      injection h with h
      have := index_fits [42, 47] (r.drop 2) (by omega)
      rw [List.length_drop] at this
      simp at this
      have := hasPrefix_length hp
      simp at this
      omega
  · cases h

theorem nextL_fuel (ws : List Bytes) : ∀ (f f' : Nat) (r : Bytes) (p : Nat), r.length < f → r.length < f' → nextL ws f r p = nextL ws f' r p
  | 0, _, _, _, h, _ => by omega
  | _ + 1, 0, _, _, _, h => by omega
  | f + 1, f' + 1, r, p, h, h' => by
    unfold nextL
    by_cases hr : r = []
    · rw [if_pos hr, if_pos hr]
    · rw [if_neg hr, if_neg hr]
      cases hs : skipL r with
      | none => rfl
      | bad => rfl
      | by_ k =>
        have hk := skipL_range hr hs
        exact nextL_fuel ws f f' (r.drop k) (p + k) (by rw [List.length_drop]; omega) (by rw [List.length_drop]; omega)
/-- The next token of a rest. -/
def NX (ws : List Bytes) (r : Bytes) (p : Nat) : Next := nextL ws (r.length + 1) r p
theorem NX_nil (ws : List Bytes) (p : Nat) : NX ws [] p = .fin := rfl
theorem NX_skip (ws : List Bytes) {r : Bytes} {k : Nat} (p : Nat) (hr : r ≠ []) (h : skipL r = .by_ k) : NX ws r p = NX ws (r.drop k) (p + k) := by
  have hk := skipL_range hr h
  unfold NX
  rw [nextL, if_neg hr, h]
  exact nextL_fuel ws _ _ _ _ (by rw [List.length_drop]; omega) (by omega)
theorem NX_bad (ws : List Bytes) {r : Bytes} (p : Nat) (hr : r ≠ []) (h : skipL r = .bad) : NX ws r p = .bad p 50 := by
  unfold NX
  rw [nextL, if_neg hr, h]
theorem NX_tok (ws : List Bytes) {r : Bytes} (p : Nat) (hr : r ≠ []) (h : skipL r = .none) : NX ws r p = if (tokL ws r).err = 0 then .tok p (tokL ws r) else .bad p (tokL ws r).err := by
  unfold NX
  rw [nextL, if_neg hr, h]
theorem unitL_range (r : Bytes) : (unitL r).2 ≤ 2 ∧ (unitL r).2 ≤ r.length ∧ (0 < (unitL r).2 → 1 ≤ (unitL r).1 ∧ (unitL r).1 ≤ 86400000) := by
  have hp : ∀ u, unitAt u r = true → u.length ≤ r.length := by
    intro u h
    unfold unitAt at h
    simp only [Bool.and_eq_true] at h
    exact hasPrefix_length h.1
  unfold unitL
  split
  · rename_i h; have := hp _ h; simp at this; exact ⟨by omega, this, by omega⟩
  split
  · rename_i h; have := hp _ h; simp at this; exact ⟨by omega, this, by omega⟩
  split
  · rename_i h; have := hp _ h; simp at this; exact ⟨by omega, this, by omega⟩
  split
  · rename_i h; have := hp _ h; simp at this; exact ⟨by omega, this, by omega⟩
  split
  · rename_i h; have := hp _ h; simp at this; exact ⟨by omega, this, by omega⟩
  · simp

theorem textC_used : ∀ (r t : Bytes) (u : Nat), textC r = some (t, u) → 1 ≤ u ∧ u ≤ r.length
  | [], _, _, h => by simp [textC] at h
  | [c], t, u, h => by
    unfold textC at h
    split at h
    · simp at h
      simp
      omega
    · simp at h
  | c :: c2 :: r, t, u, h => by
    rw [textC] at h
    split at h
    · split at h
      · cases hr : textC r with
        | none => simp [hr] at h
        | some x =>
          obtain ⟨t', u'⟩ := x
          have := textC_used r t' u' hr
          simp [hr] at h
          simp
          omega
      · simp at h
        simp
        omega
    · cases hr : textC (c2 :: r) with
      | none => simp [hr] at h
      | some x =>
        obtain ⟨t', u'⟩ := x
        have := textC_used (c2 :: r) t' u' hr
        simp [hr] at h
        simp at this ⊢
        omega
theorem run_pos {p : Int → Bool} {r : Bytes} (hr : r ≠ []) (h : p (lk r 0) = true) : 1 ≤ run p r := by
  cases r with
  | nil => exact absurd rfl hr
  | cons c r =>
    have h : p (c.toNat : Int) = true := h
    rw [run_cons, if_pos h]
    omega
theorem numberL_used {r : Bytes} (hr : r ≠ []) (h : isDigit (lk r 0) = true) : 1 ≤ (numberL r).used ∧ (numberL r).used ≤ r.length := by
  have h1 := run_pos hr h
  have h2 := run_le isDigit r
  have h3 := unitL_range (r.drop (run isDigit r))
  rw [List.length_drop] at h3
  unfold numberL
  dsimp only
  split
  · dsimp only
    omega
  split
  · rename_i hdot
    have h4 := run_le isDigit (r.drop (run isDigit r + 1))
    rw [List.length_drop] at h4
    have h5 : lk (r.drop (run isDigit r)) 0 ≠ 0 := by
      intro e
      rw [e] at hdot
      simp at hdot
    have h6 := lk_lt _ _ h5
    rw [List.length_drop] at h6
    split
    · dsimp only
      omega
    · dsimp only
      omega
  · dsimp only
    omega
theorem sign_len : ∀ g ∈ signs, 1 ≤ g.length := by decide
theorem tokL_used (ws : List Bytes) {r : Bytes} (hr : r ≠ []) (h : (tokL ws r).err = 0) : 1 ≤ (tokL ws r).used ∧ (tokL ws r).used ≤ r.length := by
  unfold tokL at h ⊢
  split
  · rename_i hl
    have h1 : 1 ≤ run isWordy r := run_pos hr (by simp [isWordy, hl])
    have h2 := run_le isWordy r
    unfold nameL
    dsimp only
    split <;> exact ⟨h1, h2⟩
  rename_i hl
  rw [if_neg hl] at h
  split
  · rename_i hd
    exact numberL_used hr hd
  rename_i hd
  rw [if_neg hd] at h
  split
  · rename_i hq
    rw [if_pos hq] at h
    unfold textL at h ⊢
    cases ht : textC (r.drop 1) with
    | none =>
      rw [ht] at h
      simp at h
    | some x =>
      obtain ⟨t, u⟩ := x
      have := textC_used _ _ _ ht
      rw [List.length_drop] at this
      dsimp only
      omega
  · rename_i hq
    rw [if_neg hq] at h
    unfold signL at h ⊢
    cases hf : signs.find? (fun g => Lib.hasPrefix r g) with
    | none => simp [hf] at h
    | some g =>
      dsimp only
      have := List.find?_some hf
      exact ⟨sign_len g (List.mem_of_find?_eq_some hf), hasPrefix_length this⟩
end Go.Proofs.YtfhiemficfibgaaGreatDoor
