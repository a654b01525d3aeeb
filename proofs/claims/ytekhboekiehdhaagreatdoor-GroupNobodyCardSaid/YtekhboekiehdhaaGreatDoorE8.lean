/- A region that draws its order, over names: operations that do not hang together touch other names, so one order stands for all. -/
import Derived.Test.YtekhboekiehdhaaGreatDoorE7
set_option linter.unusedVariables false
set_option linter.unusedSimpArgs false
namespace Go.Proofs.YtekhboekiehdhaaGreatDoor
namespace Ev
open Go.RowKit

/-- May a step that ran over the heap G with new names from lo to below hi have written the name x? -/
def wB (G : Nat → Option Slot) (lo hi x : Nat) : Bool :=
  (Nat.ble lo x && Nat.blt x hi) || (match G x with | some s => !s.lock | none => false)
theorem wB_true {G : Nat → Option Slot} {lo hi x : Nat} (h : wB G lo hi x = true) : (lo ≤ x ∧ x < hi) ∨ ∃ s, G x = some s ∧ s.lock = false := by
  simp only [wB, Bool.or_eq_true, Bool.and_eq_true] at h
  rcases h with ⟨h1, h2⟩ | h
  · exact .inl ⟨ble_true h1, ble_true h2⟩
  · split at h
    · rename_i s hs
      exact .inr ⟨s, hs, by simpa using h⟩
    · cases h
theorem wB_new {G : Nat → Option Slot} {lo hi x : Nat} (h1 : lo ≤ x) (h2 : x < hi) : wB G lo hi x = true := by
  simp only [wB, Bool.or_eq_true, Bool.and_eq_true]
  exact .inl ⟨Nat.ble_eq_true_of_le h1, Nat.ble_eq_true_of_le h2⟩
theorem wB_old {G : Nat → Option Slot} {lo hi x : Nat} {s : Slot} (h1 : G x = some s) (h2 : s.lock = false) : wB G lo hi x = true := by
  simp [wB, h1, h2]
theorem wB_false {G : Nat → Option Slot} {lo hi x : Nat} (h : wB G lo hi x = false) : ¬ (lo ≤ x ∧ x < hi) ∧ ∀ s, G x = some s → s.lock = true := by
  refine ⟨(fun ⟨h1, h2⟩ => by rw [wB_new h1 h2] at h; cases h), fun s hs => ?_⟩
  cases hl : s.lock with
  | true => rfl
  | false => rw [wB_old hs hl] at h; cases h

/-- A step over a part of a heap is a step over the whole. -/
theorem frame {base : Nat} {ρ ρ' : Env} {F G G' : Nat → Option Slot} {w w' : World} {lo hi : Nat} (hF : Sat base ρ F w) (hG : ∀ x s, G x = some s → ∃ t, F x = some t ∧ t.o = s.o ∧ (s.lock = false → t.lock = false))
    (hx : Ext ρ ρ' lo hi) (hs : Sat base ρ' G' w') (hk : Keep G ρ w G' ρ' w') (hd : DomOK G G' lo hi) (hf : ∀ n, lo ≤ n → n < hi → ρ n = none) :
    Sat base ρ' (fun x => if wB G lo hi x then G' x else F x) w' ∧ Keep F ρ w (fun x => if wB G lo hi x then G' x else F x) ρ' w' := by
  have hFnew : ∀ x, lo ≤ x → x < hi → F x = none := by
    intro x h1 h2
    cases e : F x with
    | none => rfl
    | some s =>
      obtain ⟨p, ob, hp, _⟩ := hF.held x s e
      rw [hf x h1 h2] at hp
      cases hp
  have hold : ∀ x, ¬ (lo ≤ x ∧ x < hi) → ρ' x = ρ x := fun x h => hx.off x (by omega)
  -- what G' has under a name that may have been written
  have key : ∀ x s p, wB G lo hi x = true → G' x = some s → ρ' x = some p → (∃ m t q, G m = some t ∧ t.lock = false ∧ ρ m = some q ∧ q.1 = p.1) ∨ w.heap.size ≤ p.1 := by
    intro x s p hw hs' hp
    have hl : s.lock = false := by
      rcases hd x s hs' with ⟨_, _, h⟩ | ⟨t, ht, hl, hlock⟩
      · exact h
      · rcases wB_true hw with ⟨h1, h2⟩ | ⟨u, hu, hul⟩
        · obtain ⟨r, hr, _⟩ := hG x t ht
          rw [hFnew x h1 h2] at hr
          cases hr
        · rw [ht] at hu
          injection hu with hu
          subst hu
          rw [← hl, hul]
    rcases hk.own x s p hs' hl hp with h | h
    · exact .inr h
    · exact .inl h
  refine ⟨⟨Nat.le_trans hF.room hk.size, ?_, ?_⟩, hk.os, hk.tape, hk.output, hk.size, ?_, ?_⟩
  · intro x s h
    cases hw : wB G lo hi x with
    | true =>
      simp only [hw, if_true] at h
      exact hs.held x s h
    | false =>
      simp only [hw, Bool.false_eq_true, if_false] at h
      obtain ⟨h1, h2⟩ := wB_false hw
      obtain ⟨p, ob, g1, g2, g3, g4⟩ := hF.held x s h
      refine ⟨p, ob, hx.more x p g1, g2, ?_, g4.more hx.more⟩
      rw [hk.block p.1 (Array.getElem?_eq_some_iff.1 g3).1 ?_]
      · exact g3
      · intro n t q k1 k2 k3 k4
        obtain ⟨r, hr, _⟩ := hG n t k1
        have : n = x := hF.apart n x r s q p hr h k3 g1 k4
        subst this
        rw [h2 t k1] at k2
        cases k2
  · intro x y s t p q h1 h2 h3 h4 h5
    cases hwx : wB G lo hi x with
    | true =>
      simp only [hwx, if_true] at h1
      cases hwy : wB G lo hi y with
      | true =>
        simp only [hwy, if_true] at h2
        exact hs.apart x y s t p q h1 h2 h3 h4 h5
      | false =>
        simp only [hwy, Bool.false_eq_true, if_false] at h2
        obtain ⟨k1, k2⟩ := wB_false hwy
        rw [hold y k1] at h4
        have hlt := hF.lt h2 h4
        rcases key x s p hwx h1 h3 with ⟨m, u, r, g1, g2, g3, g4⟩ | h
        · obtain ⟨u', hu', _⟩ := hG m u g1
          have : m = y := hF.apart m y u' t r q hu' h2 g3 h4 (g4.trans h5)
          subst this
          rw [k2 u g1] at g2
          cases g2
        · omega
    | false =>
      simp only [hwx, Bool.false_eq_true, if_false] at h1
      obtain ⟨k1, k2⟩ := wB_false hwx
      rw [hold x k1] at h3
      cases hwy : wB G lo hi y with
      | true =>
        simp only [hwy, if_true] at h2
        have hlt := hF.lt h1 h3
        rcases key y t q hwy h2 h4 with ⟨m, u, r, g1, g2, g3, g4⟩ | h
        · obtain ⟨u', hu', _⟩ := hG m u g1
          have : m = x := hF.apart m x u' s r p hu' h1 g3 h3 (g4.trans h5.symm)
          subst this
          rw [k2 u g1] at g2
          cases g2
        · omega
      | false =>
        simp only [hwy, Bool.false_eq_true, if_false] at h2
        obtain ⟨l1, l2⟩ := wB_false hwy
        rw [hold y l1] at h4
        exact hF.apart x y s t p q h1 h2 h3 h4 h5
  · intro b hb hn
    refine hk.block b hb fun n s p k1 k2 k3 => ?_
    obtain ⟨t, ht, _, hl⟩ := hG n s k1
    exact hn n t p ht (hl k2) k3
  · intro x s p h1 h2 h3
    cases hwx : wB G lo hi x with
    | true =>
      simp only [hwx, if_true] at h1
      rcases key x s p hwx h1 h3 with ⟨m, u, r, g1, g2, g3, g4⟩ | h
      · obtain ⟨u', hu', _, hl⟩ := hG m u g1
        exact .inr ⟨m, u', r, hu', hl g2, g3, g4⟩
      · exact .inl h
    | false =>
      simp only [hwx, Bool.false_eq_true, if_false] at h1
      obtain ⟨k1, k2⟩ := wB_false hwx
      rw [hold x k1] at h3
      exact .inr ⟨x, s, p, h1, h2, h3, rfl⟩

/-- What one operation of a region came to, when the region was run in one order. -/
structure Rec where
  i : Nat
  o : Oper
  want : Bool
  s : SV
  T : PT SV
  G : Heap
  G' : Heap
  lo : Nat
  hi : Nat
  names : List Nat
  writes : List Nat
  simple : Bool

/-- The temporaries and the heap behind those operations of a list (the latest first) that lie in D. -/
def tAt (T0 : Nat → Option SV) : List Rec → (Nat → Bool) → Nat → Option SV
  | [], _, t => T0 t
  | e :: r, D, t => if D e.i = true ∧ e.o.dst = some t then some e.s else tAt T0 r D t
def hAt (H0 : Nat → Option Slot) : List Rec → (Nat → Bool) → Nat → Option Slot
  | [], _, x => H0 x
  | e :: r, D, x => if D e.i = true ∧ wB e.G.get e.lo e.hi x = true then e.G'.get x else hAt H0 r D x

/-- Temporaries that an operation looks at. -/
def looks (ops : Array Oper) (o : Oper) : List Tmp :=
  (o.op.operands.toList.filterMap fun | .tmp t => some t | _ => none) ++ (match o.guard with | some (j, _) => ((ops[j]?).bind (·.dst)).toList | none => [])
def hasBit (m k : Nat) : Bool := Nat.testBit m k

section
variable (P : Program) (base : Nat) (ops : Array Oper) (nt : Nat) (B : List Nat) (T0 : Nat → Option SV) (H0 : Nat → Option Slot)
/-- Two operations, the second run later, of which the second does not wait for the first: they touch other things. -/
structure Free (k e : Rec) : Prop where
  reads : ∀ x s, e.G.get x = some s → wB k.G.get k.lo k.hi x = false
  writes : ∀ x, (∀ s, k.G.get x = some s → wB e.G.get e.lo e.hi x = false) ∧ (k.lo ≤ x → x < k.hi → wB e.G.get e.lo e.hi x = false)
  dst1 : ∀ d, k.o.dst = some d → d ∉ looks ops e.o ∧ e.o.dst ≠ some d
  dst2 : ∀ d, e.o.dst = some d → d ∉ looks ops k.o
structure Good (e : Rec) (r : List Rec) : Prop where
  here : ops[e.i]? = some e.o
  temps : ∀ t s, e.T.get t = some s → tAt T0 r (fun _ => true) t = some s
  want : wantS ops e.T.get e.o = some e.want
  step : e.want = true → StepOK P base e.o (sig e.T.get) e.G e.lo (e.s, e.G', e.hi)
  idle : e.want = false → e.s = .lit undef ∧ (∀ x, wB e.G.get e.lo e.hi x = false)
  part : ∀ x s, e.G.get x = some s → ∃ t, hAt H0 r (fun _ => true) x = some t ∧ t.o = s.o ∧ (s.lock = false → t.lock = false)
  free : ∀ k ∈ r, hasBit (B.getD e.i 0) k.i = false → Free ops k e
  fits : ∀ d, e.o.dst = some d → d < nt
  once : ∀ k ∈ r, k.i ≠ e.i
  after : ∀ k ∈ r, k.hi ≤ e.lo
  grows : e.lo ≤ e.hi
def AllGood : List Rec → Prop
  | [] => True
  | e :: r => Good P base ops nt B T0 H0 e r ∧ AllGood r
end

section
variable {P : Program} {base : Nat} {ops : Array Oper} {nt : Nat} {B : List Nat} {T0 : Nat → Option SV} {H0 : Nat → Option Slot}
/-- What is done is closed: with an operation, all that it waits for. -/
def Closed (B : List Nat) (D : Nat → Bool) : Prop := ∀ i, D i = true → ∀ k, hasBit (B.getD i 0) k = true → D k = true
theorem AllGood.tail {e : Rec} {r : List Rec} (h : AllGood P base ops nt B T0 H0 (e :: r)) : AllGood P base ops nt B T0 H0 r := h.2
theorem AllGood.split : ∀ {pre : List Rec} {e : Rec} {r : List Rec}, AllGood P base ops nt B T0 H0 (pre ++ e :: r) → Good P base ops nt B T0 H0 e r ∧ (∀ k ∈ pre, ∃ r', Good P base ops nt B T0 H0 k r' ∧ e ∈ r')
  | [], e, r, h => ⟨h.1, fun k hk => by cases hk⟩
  | k :: pre, e, r, h => by
    obtain ⟨h1, h2⟩ := AllGood.split h.2
    refine ⟨h1, fun q hq => ?_⟩
    rcases List.mem_cons.1 hq with rfl | hq
    · exact ⟨_, h.1, by simp⟩
    · exact h2 q hq
/-- Later operations that are done do not touch what an operation that is not done looks at. -/
theorem later_free {pre : List Rec} {e : Rec} {r : List Rec} {D : Nat → Bool} (h : AllGood P base ops nt B T0 H0 (pre ++ e :: r)) (hc : Closed B D) (he : D e.i = false) : ∀ k ∈ pre, D k.i = true → Free ops e k := by
  intro k hk hD
  obtain ⟨_, h2⟩ := AllGood.split h
  obtain ⟨r', hg, hm⟩ := h2 k hk
  refine hg.free e hm ?_
  cases hb : hasBit (B.getD k.i 0) e.i with
  | false => rfl
  | true => rw [hc k.i hD e.i hb] at he; cases he
theorem hAt_pre {pre : List Rec} {r : List Rec} {D : Nat → Bool} {x : Nat} (h : ∀ k ∈ pre, D k.i = true → wB k.G.get k.lo k.hi x = false) : hAt H0 (pre ++ r) D x = hAt H0 r D x := by
  induction pre with
  | nil => rfl
  | cons k pre ih =>
    simp only [List.cons_append, hAt]
    rw [if_neg, ih (fun q hq => h q (by simp [hq]))]
    rintro ⟨h1, h2⟩
    rw [h k (by simp) h1] at h2
    cases h2
theorem tAt_pre {pre : List Rec} {r : List Rec} {D : Nat → Bool} {t : Nat} (h : ∀ k ∈ pre, D k.i = true → k.o.dst ≠ some t) : tAt T0 (pre ++ r) D t = tAt T0 r D t := by
  induction pre with
  | nil => rfl
  | cons k pre ih =>
    simp only [List.cons_append, tAt]
    rw [if_neg, ih (fun q hq => h q (by simp [hq]))]
    rintro ⟨h1, h2⟩
    exact h k (by simp) h1 h2
theorem hAt_congr {r : List Rec} {D E : Nat → Bool} {x : Nat} (h : ∀ k ∈ r, wB k.G.get k.lo k.hi x = true → D k.i = E k.i) : hAt H0 r D x = hAt H0 r E x := by
  induction r with
  | nil => rfl
  | cons k r ih =>
    simp only [hAt]
    rw [ih (fun q hq => h q (by simp [hq]))]
    cases hw : wB k.G.get k.lo k.hi x with
    | true => rw [h k (by simp) hw]
    | false => simp
theorem tAt_congr {r : List Rec} {D E : Nat → Bool} {t : Nat} (h : ∀ k ∈ r, k.o.dst = some t → D k.i = E k.i) : tAt T0 r D t = tAt T0 r E t := by
  induction r with
  | nil => rfl
  | cons k r ih =>
    simp only [tAt]
    rw [ih (fun q hq => h q (by simp [hq]))]
    by_cases hd : k.o.dst = some t
    · rw [h k (by simp) hd]
    · simp [hd]
/-- An operation that may come up finds what it found. -/
theorem hAt_same {pre : List Rec} {e : Rec} {r : List Rec} {D : Nat → Bool} (h : AllGood P base ops nt B T0 H0 (pre ++ e :: r)) (hc : Closed B D) (he : D e.i = false) (hp : ∀ k, hasBit (B.getD e.i 0) k = true → D k = true) {x : Nat} {s : Slot} (hx : e.G.get x = some s) :
    hAt H0 (pre ++ e :: r) D x = hAt H0 r (fun _ => true) x := by
  rw [hAt_pre (fun k hk hD => ((later_free h hc he k hk hD).writes x).1 s hx)]
  have hg := (AllGood.split h).1
  rw [show hAt H0 (e :: r) D x = hAt H0 r D x from by simp only [hAt]; rw [if_neg (fun h => by rw [he] at h; cases h.1)]]
  refine hAt_congr fun k hk hw => ?_
  cases hb : hasBit (B.getD e.i 0) k.i with
  | true => exact hp k.i hb
  | false =>
    rw [(hg.free k hk hb).reads x s hx] at hw
    cases hw
theorem tAt_same {pre : List Rec} {e : Rec} {r : List Rec} {D : Nat → Bool} (h : AllGood P base ops nt B T0 H0 (pre ++ e :: r)) (hc : Closed B D) (he : D e.i = false) (hp : ∀ k, hasBit (B.getD e.i 0) k = true → D k = true) {t : Nat} (hx : t ∈ looks ops e.o) :
    tAt T0 (pre ++ e :: r) D t = tAt T0 r (fun _ => true) t := by
  rw [tAt_pre (fun k hk hD hd => (later_free h hc he k hk hD).dst2 t hd hx)]
  have hg := (AllGood.split h).1
  rw [show tAt T0 (e :: r) D t = tAt T0 r D t from by simp only [tAt]; rw [if_neg (fun h => by rw [he] at h; cases h.1)]]
  refine tAt_congr fun k hk hd => ?_
  cases hb : hasBit (B.getD e.i 0) k.i with
  | true => exact hp k.i hb
  | false => exact absurd hx ((hg.free k hk hb).dst1 t hd).1
def add (D : Nat → Bool) (i : Nat) : Nat → Bool := fun j => j == i || D j
theorem add_same (D : Nat → Bool) (i : Nat) : add D i i = true := by simp [add]
theorem add_other (D : Nat → Bool) {i j : Nat} (h : j ≠ i) : add D i j = D j := by simp [add, h]
/-- What stands behind one more operation. -/
theorem hAt_add {pre : List Rec} {e : Rec} {r : List Rec} {D : Nat → Bool} (h : AllGood P base ops nt B T0 H0 (pre ++ e :: r)) (hc : Closed B D) (he : D e.i = false) (x : Nat) :
    hAt H0 (pre ++ e :: r) (add D e.i) x = if wB e.G.get e.lo e.hi x = true then e.G'.get x else hAt H0 (pre ++ e :: r) D x := by
  have hg := (AllGood.split h).1
  have hne : ∀ k ∈ pre, k.i ≠ e.i := by
    intro k hk
    obtain ⟨r', g, hm⟩ := (AllGood.split h).2 k hk
    exact fun e' => g.once e hm e'.symm
  have hner : ∀ k ∈ r, k.i ≠ e.i := fun k hk => hg.once k hk
  cases hw : wB e.G.get e.lo e.hi x with
  | true =>
    rw [if_pos rfl, hAt_pre]
    · simp only [hAt, add_same, hw, and_self, if_true]
    · intro k hk hD
      rw [add_other D (hne k hk)] at hD
      have hf := (later_free h hc he k hk hD).writes x
      rcases wB_true hw with ⟨h1, h2⟩ | ⟨s, hs, _⟩
      · exact hf.2 h1 h2
      · exact hf.1 s hs
  | false =>
    rw [if_neg (by simp)]
    have h1 : hAt H0 (e :: r) (add D e.i) x = hAt H0 (e :: r) D x := by
      simp only [hAt, hw]
      simp only [Bool.false_eq_true, and_false, if_false]
      exact hAt_congr fun k hk _ => add_other D (hner k hk)
    have h2 : ∀ (l : List Rec), (∀ k ∈ l, k.i ≠ e.i) → hAt H0 (l ++ e :: r) (add D e.i) x = hAt H0 (l ++ e :: r) D x := by
      intro l
      induction l with
      | nil => intro _; exact h1
      | cons k l ih =>
        intro hl
        simp only [List.cons_append, hAt]
        rw [ih (fun q hq => hl q (by simp [hq])), add_other D (hl k (by simp))]
    exact h2 pre hne
theorem tAt_add {pre : List Rec} {e : Rec} {r : List Rec} {D : Nat → Bool} (h : AllGood P base ops nt B T0 H0 (pre ++ e :: r)) (hc : Closed B D) (he : D e.i = false) (t : Nat) :
    tAt T0 (pre ++ e :: r) (add D e.i) t = if e.o.dst = some t then some e.s else tAt T0 (pre ++ e :: r) D t := by
  have hg := (AllGood.split h).1
  have hne : ∀ k ∈ pre, k.i ≠ e.i := by
    intro k hk
    obtain ⟨r', g, hm⟩ := (AllGood.split h).2 k hk
    exact fun e' => g.once e hm e'.symm
  have hner : ∀ k ∈ r, k.i ≠ e.i := fun k hk => hg.once k hk
  by_cases hd : e.o.dst = some t
  · rw [if_pos hd, tAt_pre]
    · simp only [tAt, add_same, hd, and_self, if_true]
    · intro k hk hD
      rw [add_other D (hne k hk)] at hD
      exact ((later_free h hc he k hk hD).dst1 t hd).2
  · rw [if_neg hd]
    have h1 : tAt T0 (e :: r) (add D e.i) t = tAt T0 (e :: r) D t := by
      simp only [tAt, hd, and_false, if_false]
      exact tAt_congr fun k hk _ => add_other D (hner k hk)
    have h2 : ∀ (l : List Rec), (∀ k ∈ l, k.i ≠ e.i) → tAt T0 (l ++ e :: r) (add D e.i) t = tAt T0 (l ++ e :: r) D t := by
      intro l
      induction l with
      | nil => intro _; exact h1
      | cons k l ih =>
        intro hl
        simp only [List.cons_append, tAt]
        rw [ih (fun q hq => hl q (by simp [hq])), add_other D (hl k (by simp))]
    exact h2 pre hne

/-- The state behind those that are done. -/
structure Inv (base : Nat) (ops : Array Oper) (nt : Nat) (T0 : Nat → Option SV) (H0 : Nat → Option Slot) (E : List Rec) (ρ0 : Env) (w0 : World) (lo hi : Nat) (D : Nat → Bool) (ρ : Env) (a : Act) (w : World) : Prop where
  tsat : TSat ρ (tAt T0 E D) nt a
  sat : Sat base ρ (hAt H0 E D) w
  keep : Keep H0 ρ0 w0 (hAt H0 E D) ρ w
  ext : Ext ρ0 ρ lo hi
  new : ∀ e ∈ E, D e.i = false → ∀ n, e.lo ≤ n → n < e.hi → ρ n = none
theorem mem_split' {E : List Rec} {e : Rec} (h : e ∈ E) : ∃ pre r, E = pre ++ e :: r := List.append_of_mem h
theorem op_any {pre : List Rec} {e : Rec} {r : List Rec} {D : Nat → Bool} {ρ0 ρ : Env} {a : Act} {w0 w : World} {lo hi : Nat} {K : Act → World → Prop} {Q : Exit → Act → World → Prop} (h : AllGood P base ops nt B T0 H0 (pre ++ e :: r)) (hc : Closed B D) (he : D e.i = false) (hp : ∀ k, hasBit (B.getD e.i 0) k = true → D k = true)
    (hin : lo ≤ e.lo ∧ e.hi ≤ hi) (hlh : lo ≤ hi) (hpre : ∀ k ∈ pre, e.hi ≤ k.lo)
    (hI : Inv base ops nt T0 H0 (pre ++ e :: r) ρ0 w0 lo hi D ρ a w) (hK : ∀ ρ' a' w', Inv base ops nt T0 H0 (pre ++ e :: r) ρ0 w0 lo hi (add D e.i) ρ' a' w' → K a' w') : wpOp P ops Q e.i K a w := by
  have hg := (AllGood.split h).1
  have hmem : e ∈ pre ++ e :: r := by simp
  unfold wpOp
  rw [hg.here]
  simp only []
  -- the temporaries that the operation looks at
  have look : ∀ t ∈ looks ops e.o, ∀ s, e.T.get t = some s → ∃ v, a.tmps[t]? = some v ∧ den ρ s = some v := by
    intro t ht s hs
    have h1 := hg.temps t s hs
    rw [← tAt_same h hc he hp ht] at h1
    exact hI.tsat.held t s h1
  have hwant : Region.wanted e.o (yielded ops a.tmps) = e.want := by
    refine want_ok (nt := nt) (ρ := ρ) hg.want fun j want d s h1 h2 h3 => look d ?_ s h3
    simp only [looks, h1, h2]
    simp
  have tadd : ∀ {ρ' : Env} {v : Value}, More ρ ρ' → den ρ' e.s = some v → TSat ρ' (tAt T0 (pre ++ e :: r) (add D e.i)) nt (a.put e.o.dst v) := by
    intro ρ' v hm hd
    cases hdst : e.o.dst with
    | none =>
      refine ⟨hI.tsat.size, hI.tsat.defers, fun t s ht => ?_⟩
      rw [tAt_add h hc he, hdst, if_neg (by simp)] at ht
      obtain ⟨u, h1, h2⟩ := hI.tsat.held t s ht
      exact ⟨u, h1, den_more hm s u h2⟩
    | some d =>
      have hlt := hg.fits d hdst
      refine ⟨by simp [Act.put, hI.tsat.size], hI.tsat.defers, fun t s ht => ?_⟩
      rw [tAt_add h hc he, hdst] at ht
      by_cases htd : d = t
      · rw [if_pos (by rw [htd])] at ht
        injection ht with ht
        subst ht
        subst htd
        exact ⟨v, by simp [Act.put, hI.tsat.size, hlt], hd⟩
      · rw [if_neg (fun e => htd (by injection e))] at ht
        obtain ⟨u, h1, h2⟩ := hI.tsat.held t s ht
        refine ⟨u, ?_, den_more hm s u h2⟩
        simp only [Act.put]
        rw [Array.getElem?_setIfInBounds_ne (by omega)]
        exact h1
  rw [hwant]
  cases hw : e.want with
  | false =>
    rw [if_neg (by simp)]
    obtain ⟨h1, h2⟩ := hg.idle hw
    refine hK ρ _ w ⟨tadd (More.refl ρ) (by rw [h1]; rfl), ?_, ?_, hI.ext, ?_⟩
    · have : hAt H0 (pre ++ e :: r) (add D e.i) = hAt H0 (pre ++ e :: r) D := funext fun x => by rw [hAt_add h hc he, h2 x]; rfl
      rw [this]
      exact hI.sat
    · have : hAt H0 (pre ++ e :: r) (add D e.i) = hAt H0 (pre ++ e :: r) D := funext fun x => by rw [hAt_add h hc he, h2 x]; rfl
      rw [this]
      exact hI.keep
    · intro k hk hD n
      refine hI.new k hk ?_ n
      simp only [add, Bool.or_eq_false_iff] at hD
      exact hD.2
  | true =>
    rw [if_pos rfl]
    obtain ⟨s1, s2, s3⟩ := hg.step hw
    have hpart : ∀ x s, e.G.get x = some s → ∃ t, hAt H0 (pre ++ e :: r) D x = some t ∧ t.o = s.o ∧ (s.lock = false → t.lock = false) := by
      intro x s hs
      rw [hAt_same h hc he hp hs]
      exact hg.part x s hs
    refine .inl (s3 ρ a w K Q ?_ (hI.sat.fewer fun x s hs => ?_) (hI.new e hmem he) fun ρ' v w' g1 g2 g3 g4 => ?_)
    · intro x hx s hs
      cases x with
      | tmp t =>
        have ht : t ∈ looks ops e.o := by
          simp only [looks]
          refine List.mem_append.2 (.inl (List.mem_filterMap.2 ⟨.tmp t, by simpa using hx, rfl⟩))
        obtain ⟨v, h1, h2⟩ := look t ht s hs
        rw [h2]
        simp [Act.eval, Array.getD_eq_getD_getElem?, h1]
      | const v =>
        simp only [sig] at hs
        injection hs with hs
        subst hs
        exact den_ofV ρ v
      | func f =>
        simp only [sig] at hs
        injection hs with hs
        subst hs
        rfl
      | global g => cases hs
    · obtain ⟨t, ht, ho, _⟩ := hpart x s hs
      exact ⟨t, ht, ho⟩
    · obtain ⟨f1, f2⟩ := frame hI.sat hpart g1 g3 g4 s2 (hI.new e hmem he)
      have heq : hAt H0 (pre ++ e :: r) (add D e.i) = fun x => if wB e.G.get e.lo e.hi x then e.G'.get x else hAt H0 (pre ++ e :: r) D x := funext fun x => hAt_add h hc he x
      refine hK ρ' _ w' ⟨tadd g1.more g2, ?_, ?_, ?_, ?_⟩
      · rw [heq]; exact f1
      · rw [heq]; exact hI.keep.trans f2
      · refine ⟨hI.ext.more.trans g1.more, fun n hn => ?_⟩
        simp only at g1
        rw [g1.off n (by omega), hI.ext.off n hn]
      · intro k hk hD n h1 h2
        simp only [add, Bool.or_eq_false_iff] at hD
        have hne : k.i ≠ e.i := by simpa using hD.1
        have hdis : k.hi ≤ e.lo ∨ e.hi ≤ k.lo := by
          rcases List.mem_append.1 hk with hk | hk
          · exact .inr (hpre k hk)
          · rcases List.mem_cons.1 hk with hk | hk
            · exact absurd (by rw [hk]) hne
            · exact .inl (hg.after k hk)
        simp only at g1
        rw [g1.off n (by omega)]
        exact hI.new k hk hD.2 n h1 h2
theorem filter_length_lt {p q : Nat → Bool} {a : Nat} : ∀ {l : List Nat}, (∀ j, p j = true → q j = true) → a ∈ l → q a = true → p a = false → (l.filter p).length < (l.filter q).length
  | [], _, h, _, _ => by cases h
  | x :: l, hpq, h, hq, hp => by
    have hle : ∀ (l : List Nat), (l.filter p).length ≤ (l.filter q).length := by
      intro l
      induction l with
      | nil => simp
      | cons y l ih =>
        simp only [List.filter_cons]
        cases hpy : p y with
        | true => simp [hpq y hpy]; exact ih
        | false => cases hqy : q y <;> simp <;> omega
    rcases List.mem_cons.1 h with rfl | h
    · simp only [List.filter_cons, hq, hp]
      have := hle l
      simp
      omega
    · have ih := filter_length_lt hpq h hq hp
      simp only [List.filter_cons]
      cases hpx : p x with
      | true => simp [hpq x hpx]; exact ih
      | false => cases hqx : q x <;> simp <;> omega
/-- The whole region, in whatever order. -/
theorem any_order {E : List Rec} {ρ0 : Env} {w0 : World} {lo hi : Nat} {Q : Exit → Act → World → Prop} (h : AllGood P base ops nt B T0 H0 E) (hlh : lo ≤ hi)
    (hin : ∀ e ∈ E, lo ≤ e.lo ∧ e.hi ≤ hi) (hall : ∀ i, i < ops.size → ∃ e ∈ E, e.i = i)
    (hB : ∀ i o, ops[i]? = some o → ∀ k, hasBit (B.getD i 0) k = true → ∃ e ∈ o.after, Region.binds .any e = true ∧ (e.on = k ∨ hasBit (B.getD e.on 0) k = true))
    (hlex : ∀ i o, ops[i]? = some o → ∀ e ∈ o.after, Region.binds .any e = true → e.on < i)
    (hQ : ∀ ρ a w, Inv base ops nt T0 H0 E ρ0 w0 lo hi (fun _ => true) ρ a w → Q .normal a w) :
    ∀ (fuel : Nat) (listed : Array Bool) (ρ : Env) (a : Act) (w : World), listed.size = ops.size → ((List.range ops.size).filter fun i => !listed.getD i true).length ≤ fuel → Closed B (fun i => listed.getD i false) →
      Inv base ops nt T0 H0 E ρ0 w0 lo hi (fun i => listed.getD i false) ρ a w → wpAny P .any ops Q fuel listed a w := by
  have hready : ∀ (listed : Array Bool), listed.size = ops.size → Region.ready .any ops listed = [] → ∀ i, i < ops.size → listed.getD i false = true := by
    intro listed hsz hr i
    induction i using Nat.strongRecOn with
    | _ i ih =>
      intro hi
      cases hl : listed.getD i false with
      | true => rfl
      | false =>
        exfalso
        have hmem : i ∈ Region.ready .any ops listed := by
          rw [mem_ready]
          have hli : i < listed.size := by omega
          have ho : ops[i]? = some ops[i] := Array.getElem?_eq_getElem hi
          refine ⟨?_, ops[i], ho, fun x hx hb => ?_⟩
          · simp [Array.getD, hli] at hl ⊢
            exact hl
          · have hlt := hlex i _ ho x hx hb
            exact ih x.on hlt (by omega)
        rw [hr] at hmem
        cases hmem
  have hdone : ∀ (listed : Array Bool) (ρ : Env) (a : Act) (w : World), listed.size = ops.size → Region.ready .any ops listed = [] → Inv base ops nt T0 H0 E ρ0 w0 lo hi (fun i => listed.getD i false) ρ a w → Q .normal a w := by
    intro listed ρ a w hsz hr hI
    have hl := hready listed hsz hr
    have hEi : ∀ e ∈ E, e.i < ops.size := by
      intro e he
      obtain ⟨pre, r, rfl⟩ := mem_split' he
      exact (Array.getElem?_eq_some_iff.1 (AllGood.split h).1.here).1
    have hT : tAt T0 E (fun i => listed.getD i false) = tAt T0 E (fun _ => true) := funext fun t => tAt_congr fun k hk _ => hl k.i (hEi k hk)
    have hH : hAt H0 E (fun i => listed.getD i false) = hAt H0 E (fun _ => true) := funext fun x => hAt_congr fun k hk _ => hl k.i (hEi k hk)
    refine hQ ρ a w ⟨?_, ?_, ?_, hI.ext, fun e he hf => by cases hf⟩
    · rw [← hT]; exact hI.tsat
    · rw [← hH]; exact hI.sat
    · rw [← hH]; exact hI.keep
  intro fuel
  induction fuel with
  | zero =>
    intro listed ρ a w hsz hfu hc hI
    have hr : Region.ready .any ops listed = [] := by
      rw [List.eq_nil_iff_forall_not_mem]
      intro i hi
      rw [mem_ready] at hi
      obtain ⟨g1, o, g2, _⟩ := hi
      have : i ∈ (List.range ops.size).filter fun i => !listed.getD i true := List.mem_filter.2 ⟨List.mem_range.2 (Array.getElem?_eq_some_iff.1 g2).1, by rw [g1]; rfl⟩
      rw [List.length_eq_zero_iff.1 (Nat.le_zero.1 hfu)] at this
      cases this
    exact ⟨hr, hdone listed ρ a w hsz hr hI⟩
  | succ fuel ih =>
    intro listed ρ a w hsz hfu hc hI
    refine ⟨fun hr => hdone listed ρ a w hsz hr hI, fun i hi => ?_⟩
    have hi' := hi
    rw [mem_ready] at hi'
    obtain ⟨h2, o, ho, h3⟩ := hi'
    have h1 : i < ops.size := (Array.getElem?_eq_some_iff.1 ho).1
    obtain ⟨e, he, hei⟩ := hall i h1
    obtain ⟨pre, r, rfl⟩ := mem_split' he
    have hg := (AllGood.split h).1
    have hli : i < listed.size := by omega
    have hD : (fun j => listed.getD j false) e.i = false := by
      show listed.getD e.i false = false
      rw [hei]
      simp [Array.getD, hli] at h2 ⊢
      exact h2
    have hp : ∀ k, hasBit (B.getD e.i 0) k = true → (fun j => listed.getD j false) k = true := by
      intro k hk
      obtain ⟨x, hx, hb, hor⟩ := hB e.i e.o hg.here k hk
      have hoo : e.o = o := by
        have := (AllGood.split h).1.here
        rw [hei, ho] at this
        injection this with this
        exact this.symm
      have hx3 : listed.getD x.on false = true := h3 x (hoo ▸ hx) hb
      rcases hor with hor | hor
      · rw [← hor]; exact hx3
      · exact hc x.on hx3 k hor
    have hadd : ∀ j, (listed.setIfInBounds i true).getD j false = add (fun j => listed.getD j false) i j := by
      intro j
      by_cases hj : j = i
      · subst hj
        simp [add, Array.getD, hli]
      · rw [getD_set_ne _ (fun e => hj e.symm)]
        simp [add, hj]
    rw [← hei]
    refine op_any h hc hD hp (hin e he) hlh (fun k hk => ?_) hI fun ρ' a' w' hI' => ?_
    · obtain ⟨r', g, hm⟩ := (AllGood.split h).2 k hk
      exact g.after e hm
    · rw [hei] at hI' ⊢
      refine ih _ ρ' a' w' (by simp [hsz]) ?_ ?_ ?_
      · have hlt : ((List.range ops.size).filter fun j => !(listed.setIfInBounds i true).getD j true).length < ((List.range ops.size).filter fun j => !listed.getD j true).length := by
          refine filter_length_lt (a := i) ?_ (List.mem_range.2 h1) (by rw [h2]; rfl) (by simp [Array.getD, hli])
          intro j hj
          by_cases hji : j = i
          · subst hji; rw [h2]; rfl
          · rw [getD_set_ne _ (fun e => hji e.symm)] at hj; exact hj
        omega
      · intro j hj k hk
        simp only [hadd] at hj ⊢
        by_cases hji : j = i
        · have : (fun j => listed.getD j false) k = true := hp k (by rw [hei, ← hji]; exact hk)
          simp only [add, this, Bool.or_true]
        · rw [add_other _ hji] at hj
          have := hc j hj k hk
          simp only [add, this, Bool.or_true]
      · have : (fun j => (listed.setIfInBounds i true).getD j false) = add (fun j => listed.getD j false) i := funext hadd
        rw [this]
        exact hI'
end
end Ev
end Go.Proofs.YtekhboekiehdhaaGreatDoor
