/- What the three statements ask of the plain lexer. -/
import Derived.Test.YtfhiemficfibgaaGreatDoorB3
namespace Go.Proofs.YtfhiemficfibgaaGreatDoor

/-! ### a line's end, and what follows, appended -/
theorem lk_append {r x : Bytes} {k : Nat} (h : k < r.length) : lk (r ++ x) k = lk r k := by
  unfold lk
  rw [List.getD_eq_getElem?_getD, List.getD_eq_getElem?_getD, List.getElem?_append_left h]
/-- What does not tell a line's end from the source's. -/
theorem lk_end (p : Int → Bool) (h : p 10 = p 0) {r : Bytes} (b : Bytes) {k : Nat} (hk : k ≤ r.length) : p (lk (r ++ 10 :: b) k) = p (lk r k) := by
  rcases Nat.lt_or_ge k r.length with h1 | h1
  · rw [lk_append h1]
  · obtain rfl : k = r.length := by omega
    have e1 : lk (r ++ 10 :: b) r.length = 10 := by
      unfold lk
      rw [List.getD_eq_getElem?_getD, List.getElem?_append_right (Nat.le_refl _)]
      simp
    have e2 : lk r r.length = 0 := by
      unfold lk
      rw [List.getD_eq_getElem?_getD, List.getElem?_eq_none (Nat.le_refl _)]
      rfl
    rw [e1, e2, h]
theorem prefix_end (b : Bytes) : ∀ (g r : Bytes), 10 ∉ g → Lib.hasPrefix (r ++ 10 :: b) g = Lib.hasPrefix r g
  | [], r, _ => by simp [Lib.hasPrefix]
  | c :: g, [], h => by
    have : c ≠ 10 := fun e => h (by simp [e])
    simp [Lib.hasPrefix, List.isPrefixOf, this]
  | c :: g, d :: r, h => by
    have := prefix_end b g r (fun hc => h (by simp [hc]))
    unfold Lib.hasPrefix at this ⊢
    rw [List.cons_append, List.isPrefixOf, List.isPrefixOf, this]
theorem run_append (p : Int → Bool) (h : p 10 = false) (b : Bytes) : ∀ r : Bytes, run p (r ++ 10 :: b) = run p r
  | [] => by
    rw [List.nil_append, run_cons, run_nil, if_neg (by rw [show (((10 : UInt8).toNat : Nat) : Int) = 10 from rfl, h]; simp)]
  | c :: r => by rw [List.cons_append, run_cons, run_cons, run_append p h b r]
theorem take_run (p : Int → Bool) (x r : Bytes) : (r ++ x).take (run p r) = r.take (run p r) := List.take_append_of_le_length (run_le p r)
theorem drop_to {r x : Bytes} {k : Nat} (h : k ≤ r.length) : (r ++ x).drop k = r.drop k ++ x := List.drop_append_of_le_length h
theorem index_append (sub y : Bytes) : ∀ x : Bytes, 0 ≤ Lib.index x sub → Lib.index (x ++ y) sub = Lib.index x sub
  | [], h => by
    unfold Lib.index at h ⊢
    split at h
    · rename_i he
      have : sub = [] := by simpa using he
      subst this
      cases y <;> simp [List.isPrefixOf]
    · omega
  | b :: l, h => by
    unfold Lib.index at h
    rw [List.cons_append]
    unfold Lib.index
    by_cases hp : sub.isPrefixOf (b :: l) = true
    · have h2 : sub.isPrefixOf (b :: (l ++ y)) = true := by
        rw [List.isPrefixOf_iff_prefix] at hp ⊢
        rw [← List.cons_append]
        exact hp.trans (List.prefix_append _ _)
      rw [if_pos hp, if_pos h2]
    · rw [if_neg hp] at h ⊢
      split at h
      · omega
      rename_i h1
      have h2 : 0 ≤ Lib.index l sub := by
        have := Lib.index_ge l sub
        have : Lib.index l sub ≠ -1 := fun e => h1 (by rw [e]; rfl)
        omega
      have ih := index_append sub y l h2
      by_cases hq : sub.isPrefixOf (b :: (l ++ y)) = true
      · exfalso
        apply hp
        have hf := index_fits sub l h2
        rw [List.isPrefixOf_iff_prefix] at hq ⊢
        rw [← List.cons_append] at hq
        exact List.prefix_of_prefix_length_le hq (List.prefix_append _ _) (by simp; omega)
      · rw [if_neg hq, ih, if_neg h1]

theorem skipL_append (b : Bytes) {r : Bytes} (hr : r ≠ []) (h : skipL r ≠ .bad) : skipL (r ++ 10 :: b) = skipL r := by
  have hl : 0 < r.length := by cases r <;> simp_all
  unfold skipL at h ⊢
  rw [lk_append hl, prefix_end b [45, 45] r (by decide), prefix_end b [47, 42] r (by decide), run_append notLine (by decide) b r]
  by_cases h1 : isBlank (lk r 0) = true
  · simp [h1]
  by_cases h2 : Lib.hasPrefix r [45, 45] = true
  · simp [h1, h2]
  by_cases h3 : Lib.hasPrefix r [47, 42] = true
  · rw [if_neg h1, if_neg h2, if_pos h3] at h
    have h4 : 0 ≤ Lib.index (r.drop 2) [42, 47] := by
      by_cases h5 : Lib.index (r.drop 2) [42, 47] < 0
      · rw [if_pos h5] at h; exact absurd rfl h
      · omega
    have h6 := hasPrefix_length h3
    rw [drop_to (by simpa using h6), index_append _ _ _ h4]
  · simp [h1, h2, h3]

theorem unitAt_append (b u x : Bytes) (hu : 10 ∉ u) : unitAt u (x ++ 10 :: b) = unitAt u x := by
  unfold unitAt
  rw [prefix_end b u x hu]
  by_cases h : Lib.hasPrefix x u = true
  · have hl := hasPrefix_length h
    rw [lk_end isLetter (by decide) b hl, lk_end isDigit (by decide) b hl]
  · simp [h]
theorem unitL_append (b x : Bytes) : unitL (x ++ 10 :: b) = unitL x := by
  unfold unitL
  rw [unitAt_append b _ x (by decide), unitAt_append b _ x (by decide), unitAt_append b _ x (by decide), unitAt_append b _ x (by decide), unitAt_append b _ x (by decide)]

theorem numberL_append (b r : Bytes) : numberL (r ++ 10 :: b) = numberL r := by
  unfold numberL
  dsimp only
  have hk := run_le isDigit r
  have e46 : (lk (r.drop (run isDigit r) ++ 10 :: b) 0 == 46) = (lk (r.drop (run isDigit r)) 0 == 46) := lk_end (fun c => c == 46) (by decide) b (Nat.zero_le _)
  rw [run_append isDigit (by decide) b r, take_run, drop_to hk, unitL_append, e46, lk_end isLetter (by decide) b (Nat.zero_le _)]
  by_cases hz : r.drop (run isDigit r) = []
  · have e1 : (lk (r.drop (run isDigit r)) 0 == 46) = false := by rw [hz]; rfl
    rw [e1]
    simp only [Bool.false_and, Bool.false_eq_true, if_false]
  · have hl : 1 ≤ (r.drop (run isDigit r)).length := by
      cases hx : r.drop (run isDigit r) with
      | nil => exact absurd hx hz
      | cons a l => simp
    rw [lk_end isDigit (by decide) b hl]
    rw [List.length_drop] at hl
    rw [drop_to (by omega : run isDigit r + 1 ≤ r.length), run_append isDigit (by decide) b, take_run]
    have hp := run_le isDigit (r.drop (run isDigit r + 1))
    rw [List.length_drop] at hp
    rw [drop_to (by omega : run isDigit r + 1 + run isDigit (r.drop (run isDigit r + 1)) ≤ r.length), lk_end isLetter (by decide) b (Nat.zero_le _)]

theorem textC_append (b : Bytes) : ∀ (r : Bytes) (x : Bytes × Nat), textC r = some x → textC (r ++ 10 :: b) = some x
  | [], x, h => by simp [textC] at h
  | [c], x, h => by
    unfold textC at h
    split at h
    · rename_i hc
      rw [List.cons_append, List.nil_append]
      unfold textC
      rw [if_pos hc, if_neg (by decide)]
      exact h
    · simp at h
  | c :: c2 :: r, x, h => by
    unfold textC at h
    rw [List.cons_append, List.cons_append]
    unfold textC
    by_cases hc : c.toNat = 39
    · rw [if_pos hc] at h ⊢
      by_cases hc2 : c2.toNat = 39
      · rw [if_pos hc2] at h ⊢
        cases hy : textC r with
        | none => rw [hy] at h; simp at h
        | some y =>
          rw [textC_append b r y hy]
          rw [hy] at h
          exact h
      · rw [if_neg hc2] at h ⊢
        exact h
    · rw [if_neg hc] at h ⊢
      cases hy : textC (c2 :: r) with
      | none => rw [hy] at h; simp at h
      | some y =>
        have := textC_append b (c2 :: r) y hy
        rw [List.cons_append] at this
        rw [this]
        rw [hy] at h
        exact h
theorem textL_append (b : Bytes) {r : Bytes} (hr : r ≠ []) (h : (textL r).err = 0) : textL (r ++ 10 :: b) = textL r := by
  have hl : 1 ≤ r.length := by cases r <;> simp_all
  unfold textL at h ⊢
  rw [drop_to hl]
  cases hy : textC (r.drop 1) with
  | none => rw [hy] at h; simp at h
  | some y => rw [textC_append b _ y hy]
theorem find_congr {α : Type} (f g : α → Bool) : ∀ l : List α, (∀ a ∈ l, f a = g a) → l.find? f = l.find? g
  | [], _ => rfl
  | a :: l, h => by
    rw [List.find?_cons, List.find?_cons, h a (by simp), find_congr f g l (fun a ha => h a (by simp [ha]))]
theorem signs_plain : ∀ g ∈ signs, 10 ∉ g := by decide
theorem signL_append (b r : Bytes) : signL (r ++ 10 :: b) = signL r := by
  unfold signL
  rw [find_congr _ (fun g => Lib.hasPrefix r g) signs (fun g hg => prefix_end b g r (signs_plain g hg))]
theorem tokL_append (ws : List Bytes) (b : Bytes) {r : Bytes} (hr : r ≠ []) (h : (tokL ws r).err = 0) : tokL ws (r ++ 10 :: b) = tokL ws r := by
  have hl : 0 < r.length := by cases r <;> simp_all
  unfold tokL at h ⊢
  rw [lk_append hl]
  by_cases h1 : isLetter (lk r 0) = true
  · rw [if_pos h1, if_pos h1]
    unfold nameL
    dsimp only
    rw [run_append isWordy (by decide) b r, take_run]
  rw [if_neg h1] at h
  rw [if_neg h1, if_neg h1]
  by_cases h2 : isDigit (lk r 0) = true
  · rw [if_pos h2, if_pos h2, numberL_append]
  rw [if_neg h2] at h
  rw [if_neg h2, if_neg h2]
  by_cases h3 : (lk r 0 == 39) = true
  · rw [if_pos h3] at h
    rw [if_pos h3, if_pos h3]
    exact textL_append b hr h
  · rw [if_neg h3, if_neg h3, signL_append]

theorem NX_append (ws : List Bytes) (b : Bytes) (hb : ∀ p, NX ws (10 :: b) p = .fin) : ∀ (n : Nat) (r : Bytes) (p : Nat), r.length ≤ n → (∀ q e, NX ws r p ≠ .bad q e) → NX ws (r ++ 10 :: b) p = NX ws r p
  | n, [], p, _, _ => by rw [List.nil_append, hb, NX_nil]
  | 0, c :: r, _, h, _ => by simp at h
  | n + 1, c :: r, p, hn, h => by
    have hr : c :: r ≠ [] := by simp
    have hr2 : (c :: r) ++ 10 :: b ≠ [] := by simp
    cases hs : skipL (c :: r) with
    | by_ k =>
      have hk := skipL_range hr hs
      rw [NX_skip ws p hr hs] at h ⊢
      rw [NX_skip ws p hr2 (by rw [skipL_append b hr (by rw [hs]; simp), hs]), drop_to hk.2]
      exact NX_append ws b hb n _ _ (by rw [List.length_drop]; omega) h
    | bad => exact absurd (NX_bad ws p hr hs) (h _ _)
    | none =>
      rw [NX_tok ws p hr hs] at h ⊢
      rw [NX_tok ws p hr2 (by rw [skipL_append b hr (by rw [hs]; simp), hs])]
      by_cases he : (tokL ws (c :: r)).err = 0
      · rw [tokL_append ws b hr he]
      · rw [if_neg he] at h
        exact absurd rfl (h _ _)

theorem LXc_ok {t : Tk} {x : Except (Nat × Int) (List Tk)} {l : List Tk} (h : LXc t x = .ok l) : ∃ l', x = .ok l' ∧ l = t :: l' := by
  cases x with
  | ok l' => simp [LXc] at h; exact ⟨l', rfl, h.symm⟩
  | error e => simp [LXc] at h

theorem LX_append (ws : List Bytes) (b : Bytes) (hb : ∀ p, NX ws (10 :: b) p = .fin) : ∀ (l : List Tk) (r : Bytes) (p : Nat), LX ws r p = .ok l → LX ws (r ++ 10 :: b) p = .ok l
  | l, r, p, h => by
    rw [LX_step] at h ⊢
    rw [NX_append ws b hb r.length r p (Nat.le_refl _) (fun q e hc => by rw [hc] at h; simp at h)]
    cases hn : NX ws r p with
    | fin => rw [hn] at h; exact h
    | bad q e => rw [hn] at h; simp at h
    | tok q g =>
      rw [hn] at h
      simp only at h ⊢
      obtain ⟨l', hl', rfl⟩ := LXc_ok h
      obtain ⟨a1, a2, _, _, _, a5, a6⟩ := NX_range hn
      rw [drop_to (by omega), LX_append ws b hb l' _ _ hl']
      rfl
termination_by l => l.length

/-! ### blanks and notes ahead -/
theorem NX_ahead1 (ws : List Bytes) {r : Bytes} {k : Nat} (p : Nat) (hr : r ≠ []) (h : skipL r = .by_ k) : LX ws r p = LX ws (r.drop k) (p + k) := by
  have hk := skipL_range hr h
  rw [LX_step, LX_step ws (r.drop k), NX_skip ws p hr h]
  cases hn : NX ws (r.drop k) (p + k) with
  | fin => rfl
  | bad q e => rfl
  | tok q g =>
    obtain ⟨a1, a2, _, _, _, a5, a6⟩ := NX_range hn
    simp only
    rw [List.drop_drop, show k + (q - (p + k) + g.used) = q - p + g.used from by omega]

/-- The five notes and blanks. -/
def aheads : List Bytes := [[32], [10], [47, 42, 32, 105, 116, 39, 115, 32, 42, 47], [45, 45, 32, 115, 111, 10], [9, 32, 13, 10]]
theorem LX_ahead (ws : List Bytes) (b r : Bytes) (p : Nat) (hb : b ∈ aheads) : LX ws (b ++ r) p = LX ws r (p + b.length) := by
  simp only [aheads, List.mem_cons, List.not_mem_nil, or_false] at hb
  rcases hb with rfl | rfl | rfl | rfl | rfl
  · exact NX_ahead1 ws p (by simp) (k := 1) (by rfl)
  · exact NX_ahead1 ws p (by simp) (k := 1) (by rfl)
  · exact NX_ahead1 ws p (by simp) (k := 10) (by rfl)
  · rw [show ([45, 45, 32, 115, 111, 10] : Bytes) ++ r = 45 :: 45 :: 32 :: 115 :: 111 :: 10 :: r from rfl]
    rw [NX_ahead1 ws p (by simp) (k := 5) (by rfl)]
    exact NX_ahead1 ws (p + 5) (by simp) (k := 1) (by rfl)
  · rw [show ([9, 32, 13, 10] : Bytes) ++ r = 9 :: 32 :: 13 :: 10 :: r from rfl]
    rw [NX_ahead1 ws p (by simp) (k := 1) (by rfl)]
    rw [show (9 :: 32 :: 13 :: 10 :: r : Bytes).drop 1 = 32 :: 13 :: 10 :: r from rfl, NX_ahead1 ws (p + 1) (by simp) (k := 1) (by rfl)]
    rw [show (32 :: 13 :: 10 :: r : Bytes).drop 1 = 13 :: 10 :: r from rfl, NX_ahead1 ws (p + 1 + 1) (by simp) (k := 1) (by rfl)]
    exact NX_ahead1 ws (p + 1 + 1 + 1) (by simp) (k := 1) (by rfl)
theorem NX_only (ws : List Bytes) (b : Bytes) (hb : b ∈ aheads) (p : Nat) : NX ws (10 :: b) p = .fin := by
  simp only [aheads, List.mem_cons, List.not_mem_nil, or_false] at hb
  have h1 : ∀ (c : UInt8) (l : Bytes) (p : Nat), isBlank c.toNat = true → NX ws (c :: l) p = NX ws l (p + 1) := by
    intro c l p h
    exact NX_skip ws p (by simp) (k := 1) (by unfold skipL; rw [show lk (c :: l) 0 = c.toNat from rfl, h]; rfl)
  rcases hb with rfl | rfl | rfl | rfl | rfl
  · rw [h1 _ _ _ (by decide), h1 _ _ _ (by decide), NX_nil]
  · rw [h1 _ _ _ (by decide), h1 _ _ _ (by decide), NX_nil]
  · rw [h1 _ _ _ (by decide), NX_skip ws (p + 1) (by simp) (k := 10) (by rfl)]
    exact NX_nil ws _
  · rw [h1 _ _ _ (by decide), NX_skip ws (p + 1) (by simp) (k := 5) (by rfl)]
    rw [show ([45, 45, 32, 115, 111, 10] : Bytes).drop 5 = [10] from rfl, h1 _ _ _ (by decide), NX_nil]
  · rw [h1 _ _ _ (by decide), h1 _ _ _ (by decide), h1 _ _ _ (by decide), h1 _ _ _ (by decide), h1 _ _ _ (by decide), NX_nil]

/-! ### where it begins does not matter -/
def Next.shift (d : Nat) : Next → Next
  | .fin => .fin
  | .bad p e => .bad (p + d) e
  | .tok p g => .tok (p + d) g
theorem nextL_shift (ws : List Bytes) (d : Nat) : ∀ (f : Nat) (r : Bytes) (p : Nat), nextL ws f r (p + d) = (nextL ws f r p).shift d
  | 0, _, _ => rfl
  | f + 1, r, p => by
    unfold nextL
    by_cases hr : r = []
    · rw [if_pos hr, if_pos hr]; rfl
    rw [if_neg hr, if_neg hr]
    cases skipL r with
    | by_ k =>
      simp only
      rw [show p + d + k = p + k + d from by omega]
      exact nextL_shift ws d f _ _
    | bad => rfl
    | none =>
      simp only
      split <;> rfl
def tkShift (d : Nat) (t : Tk) : Tk := ⟨t.kind, t.text, t.n, t.at_ + d⟩
/-- Without its place. -/
def bareT (t : Tk) : Tk := ⟨t.kind, t.text, t.n, 0⟩
theorem LX_shift (ws : List Bytes) (d : Nat) : ∀ (l : List Tk) (r : Bytes) (p : Nat), LX ws r p = .ok l → LX ws r (p + d) = .ok (l.map (tkShift d))
  | l, r, p, h => by
    rw [LX_step] at h ⊢
    have hs : NX ws r (p + d) = (NX ws r p).shift d := nextL_shift ws d _ r p
    rw [hs]
    cases hn : NX ws r p with
    | fin => rw [hn] at h; simp at h; subst h; rfl
    | bad q e => rw [hn] at h; simp at h
    | tok q g =>
      rw [hn] at h
      simp only [Next.shift] at h ⊢
      obtain ⟨l', hl', rfl⟩ := LXc_ok h
      obtain ⟨a1, a2, _, _, _, a5, a6⟩ := NX_range hn
      rw [show q + d - (p + d) + g.used = q - p + g.used from by omega, show q + d + g.used = q + g.used + d from by omega, LX_shift ws d l' _ _ hl']
      rfl
termination_by l => l.length
theorem bare_shift (d : Nat) (l : List Tk) : (l.map (tkShift d)).map bareT = l.map bareT := by
  rw [List.map_map]
  rfl

/-- **Blanks and notes around a source.** -/
theorem notes_law (ws : List Bytes) (b s : Bytes) (hb : b ∈ aheads) (l : List Tk) (h : LX ws s 0 = .ok l) : ∃ m, LX ws (b ++ s ++ [10] ++ b) 0 = .ok m ∧ m.map bareT = l.map bareT := by
  refine ⟨l.map (tkShift b.length), ?_, bare_shift _ _⟩
  rw [show b ++ s ++ [10] ++ b = b ++ (s ++ 10 :: b) from by simp, LX_ahead ws b _ 0 hb]
  exact LX_shift ws b.length l _ 0 (LX_append ws b (NX_only ws b hb) l s 0 h)

/-- **Each token stands at its byte.** -/
theorem places_law (ws : List Bytes) : ∀ (l : List Tk) (r : Bytes) (p : Nat), LX ws r p = .ok l → ∀ (i : Nat) (t : Tk), l[i]? = some t →
    p ≤ t.at_ ∧ t.at_ - p < r.length ∧ LX ws (r.drop (t.at_ - p)) t.at_ = .ok (l.drop i) ∧ ∀ (j : Nat) (t' : Tk), j + 1 = i → l[j]? = some t' → t'.at_ < t.at_
  | [], _, _, _, i, t, ht => by simp at ht
  | t0 :: l1, r, p, h, i, t, ht => by
    rw [LX_step] at h
    cases hn : NX ws r p with
    | fin => rw [hn] at h; simp at h
    | bad q e => rw [hn] at h; simp at h
    | tok q g =>
      rw [hn] at h
      simp only at h
      obtain ⟨l', hl', heq⟩ := LXc_ok h
      injection heq with h0 h1
      subst h0 h1
      obtain ⟨a1, a2, a3, a4, a4', a5, a6⟩ := NX_range hn
      cases i with
      | zero =>
        simp at ht
        subst ht
        refine ⟨a1, a2, ?_, fun j t' hj => by omega⟩
        have hne : r.drop (q - p) ≠ [] := by
          intro e
          have := congrArg List.length e
          rw [List.length_drop] at this
          simp at this
          omega
        rw [LX_step, NX_tok ws q hne a3, ← a4, if_pos a4']
        simp only
        rw [List.drop_drop, show q - p + (q - q + g.used) = q - p + g.used from by omega, hl']
        rfl
      | succ i =>
        have ht' : l1[i]? = some t := by simpa using ht
        obtain ⟨b1, b2, b3, b4⟩ := places_law ws l1 _ _ hl' i t ht'
        rw [List.length_drop] at b2
        rw [List.drop_drop, show q - p + g.used + (t.at_ - (q + g.used)) = t.at_ - p from by omega] at b3
        refine ⟨by omega, by omega, b3, ?_⟩
        intro j t' hj hjt
        cases j with
        | zero =>
          simp at hjt
          subst hjt
          show q < t.at_
          omega
        | succ j => exact b4 j t' (by omega) (by simpa using hjt)
theorem LX_shift_back (ws : List Bytes) (d : Nat) : ∀ (l : List Tk) (r : Bytes) (p : Nat), LX ws r (p + d) = .ok l → ∃ m, LX ws r p = .ok m
  | l, r, p, h => by
    rw [LX_step] at h ⊢
    have hs : NX ws r (p + d) = (NX ws r p).shift d := nextL_shift ws d _ r p
    rw [hs] at h
    cases hn : NX ws r p with
    | fin => exact ⟨_, rfl⟩
    | bad q e => rw [hn] at h; simp [Next.shift] at h
    | tok q g =>
      rw [hn] at h
      simp only [Next.shift] at h ⊢
      obtain ⟨l', hl', rfl⟩ := LXc_ok h
      obtain ⟨a1, a2, _, _, _, a5, a6⟩ := NX_range hn
      rw [show q + d - (p + d) + g.used = q - p + g.used from by omega, show q + d + g.used = q + g.used + d from by omega] at hl'
      obtain ⟨m, hm⟩ := LX_shift_back ws d l' _ _ hl'
      rw [hm]
      exact ⟨_, rfl⟩
termination_by l => l.length
theorem places_top (ws : List Bytes) (s : Bytes) (l : List Tk) (h : LX ws s 0 = .ok l) (i : Nat) (t : Tk) (ht : l[i]? = some t) :
    t.at_ < s.length ∧ (∀ (j : Nat) (t' : Tk), j + 1 = i → l[j]? = some t' → t'.at_ < t.at_) ∧ ∃ m, LX ws (s.drop t.at_) 0 = .ok m ∧ m.map bareT = (l.drop i).map bareT := by
  obtain ⟨h1, h2, h3, h4⟩ := places_law ws l s 0 h i t ht
  rw [Nat.sub_zero] at h2 h3
  refine ⟨h2, h4, ?_⟩
  cases hx : LX ws (s.drop t.at_) 0 with
  | ok m =>
    have := LX_shift ws t.at_ m _ 0 hx
    rw [Nat.zero_add, h3] at this
    injection this with this
    exact ⟨m, rfl, by rw [this, bare_shift]⟩
  | error e =>
    exfalso
    have := LX_shift_back ws t.at_ (l.drop i) _ 0 (by rw [Nat.zero_add]; exact h3)
    obtain ⟨m, hm⟩ := this
    rw [hm] at hx
    simp at hx
theorem LX_len (ws : List Bytes) : ∀ (l : List Tk) (r : Bytes) (p : Nat), LX ws r p = .ok l → l.length ≤ r.length
  | [], _, _, _ => by simp
  | t0 :: l1, r, p, h => by
    rw [LX_step] at h
    cases hn : NX ws r p with
    | fin => rw [hn] at h; simp at h
    | bad q e => rw [hn] at h; simp at h
    | tok q g =>
      rw [hn] at h
      simp only at h
      obtain ⟨l', hl', heq⟩ := LXc_ok h
      injection heq with h0 h1
      subst h0 h1
      obtain ⟨a1, a2, a3, a4, a4', a5, a6⟩ := NX_range hn
      have := LX_len ws l1 _ _ hl'
      rw [List.length_drop] at this
      simp
      omega

/-! ### words in capital letters -/
def capsL (x : Bytes) : Bytes := x.map (· - 32)
def smallT (x : Bytes) : Bytes := x ++ [32] ++ capsL x ++ [32] ++ x ++ [95, 32] ++ [95] ++ x
def smallB (x : Bytes) : Bool := match LX words (smallT x) 0 with
  | .ok [t0, t1, t2, t3] => decide (t0 = ⟨2, x, 0, 0⟩) && (decide (t1.kind = 2) && (decide (t1.text = x) && (decide (t2.kind = 1) && (decide (t2.text = x ++ [95]) && decide (t3.kind = 1)))))
  | _ => false
theorem small_all : words.all smallB = true := by decide +kernel
end Go.Proofs.YtfhiemficfibgaaGreatDoor
