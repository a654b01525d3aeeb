/- All tokens, by steps. -/
import Derived.Test.YtfhiemficfibgaaGreatDoorB2
namespace Go.Proofs.YtfhiemficfibgaaGreatDoor

/-- Where a token begins, and how long it is. -/
theorem nextL_range (ws : List Bytes) : ∀ (f : Nat) (r : Bytes) (p q : Nat) (g : Got), nextL ws f r p = .tok q g →
    p ≤ q ∧ q - p < r.length ∧ skipL (r.drop (q - p)) = .none ∧ g = tokL ws (r.drop (q - p)) ∧ g.err = 0 ∧ 1 ≤ g.used ∧ (q - p) + g.used ≤ r.length
  | 0, _, _, _, _, h => by simp [nextL] at h
  | f + 1, r, p, q, g, h => by
    unfold nextL at h
    split at h
    · simp at h
    rename_i hr
    split at h
    · rename_i k hk
      have h1 := skipL_range hr hk
      obtain ⟨a, b, c, d, e, e1, e2⟩ := nextL_range ws f (r.drop k) (p + k) q g h
      rw [List.length_drop] at b e2
      rw [List.drop_drop, show k + (q - (p + k)) = q - p from by omega] at c d
      exact ⟨by omega, by omega, c, d, e, e1, by omega⟩
    · simp at h
    · rename_i hs
      split at h
      · rename_i he
        injection h with h1 h2
        subst h1 h2
        have hl : 1 ≤ r.length := by cases r <;> simp_all
        rw [Nat.sub_self]
        have := tokL_used ws hr he
        exact ⟨Nat.le_refl _, by omega, hs, rfl, he, this.1, by omega⟩
      · simp at h
theorem NX_range {ws : List Bytes} {r : Bytes} {p q : Nat} {g : Got} (h : NX ws r p = .tok q g) :
    p ≤ q ∧ q - p < r.length ∧ skipL (r.drop (q - p)) = .none ∧ g = tokL ws (r.drop (q - p)) ∧ g.err = 0 ∧ 1 ≤ g.used ∧ (q - p) + g.used ≤ r.length := nextL_range ws _ r p q g h

theorem lexL_fuel (ws : List Bytes) : ∀ (f f' : Nat) (r : Bytes) (p : Nat), r.length < f → r.length < f' → lexL ws f r p = lexL ws f' r p
  | 0, _, _, _, h, _ => by omega
  | _ + 1, 0, _, _, _, h => by omega
  | f + 1, f' + 1, r, p, h, h' => by
    unfold lexL
    cases hn : nextL ws (r.length + 1) r p with
    | fin => rfl
    | bad q e => rfl
    | tok q g =>
      obtain ⟨a, b, c, d, e, e1, e2⟩ := nextL_range ws _ r p q g hn
      simp only
      rw [lexL_fuel ws f f' _ _ (by rw [List.length_drop]; omega) (by rw [List.length_drop]; omega)]

/-- All tokens of a rest. -/
def LX (ws : List Bytes) (r : Bytes) (p : Nat) : Except (Nat × Int) (List Tk) := lexL ws (r.length + 1) r p
def LXc (t : Tk) : Except (Nat × Int) (List Tk) → Except (Nat × Int) (List Tk)
  | .ok l => .ok (t :: l)
  | .error x => .error x
theorem LX_step (ws : List Bytes) (r : Bytes) (p : Nat) : LX ws r p = match NX ws r p with
    | .fin => .ok []
    | .bad q e => .error (q, e)
    | .tok q g => LXc ⟨g.kind, g.text, g.n, q⟩ (LX ws (r.drop (q - p + g.used)) (q + g.used)) := by
  unfold LX
  rw [lexL]
  unfold NX
  cases hn : nextL ws (r.length + 1) r p with
  | fin => rfl
  | bad q e => rfl
  | tok q g =>
    obtain ⟨a, b, c, d, e, e1, e2⟩ := nextL_range ws _ r p q g hn
    simp only
    rw [lexL_fuel ws r.length ((r.drop (q - p + g.used)).length + 1) _ _ (by rw [List.length_drop]; omega) (by omega)]
    cases lexL ws ((r.drop (q - p + g.used)).length + 1) (r.drop (q - p + g.used)) (q + g.used) <;> rfl

/-- With some tokens ahead. -/
def LXa (l0 : List Tk) : Except (Nat × Int) (List Tk) → Except (Nat × Int) (List Tk)
  | .ok l => .ok (l0 ++ l)
  | .error x => .error x
theorem LXa_nil (x : Except (Nat × Int) (List Tk)) : LXa [] x = x := by cases x <;> rfl
theorem LXa_cons (l0 : List Tk) (t : Tk) (x : Except (Nat × Int) (List Tk)) : LXa l0 (LXc t x) = LXa (l0 ++ [t]) x := by cases x <;> simp [LXa, LXc]
end Go.Proofs.YtfhiemficfibgaaGreatDoor
