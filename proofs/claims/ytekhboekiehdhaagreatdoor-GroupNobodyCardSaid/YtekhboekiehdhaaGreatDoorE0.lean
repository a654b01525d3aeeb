/- Names in the place of blocks: trees by number, values over names, heaps over names, and how they stand to a world. -/
import Derived.Below
import Derived.Orders
import Derived.KernelRfl
import Derived.WalkKit
set_option linter.unusedVariables false
namespace Go.Proofs.YtekhboekiehdhaaGreatDoor
namespace Ev

/-- A tree by number. -/
inductive PT (α : Type) where
  | nil
  | node (l : PT α) (v : Option α) (r : PT α)
def PT.get {α : Type} : PT α → Nat → Option α
  | .nil, _ => none
  | .node l v r, n => bif Nat.beq n 0 then v else bif Nat.beq (n % 2) 1 then l.get (n / 2) else r.get (n / 2 - 1)
def PT.putF {α : Type} (v : Option α) : Nat → PT α → Nat → PT α
  | 0, .nil, _ => .node .nil v .nil
  | 0, .node l _ r, _ => .node l v r
  | f + 1, .nil, n => bif Nat.beq n 0 then .node .nil v .nil else bif Nat.beq (n % 2) 1 then .node (PT.putF v f .nil (n / 2)) none .nil else .node .nil none (PT.putF v f .nil (n / 2 - 1))
  | f + 1, .node l x r, n => bif Nat.beq n 0 then .node l v r else bif Nat.beq (n % 2) 1 then .node (PT.putF v f l (n / 2)) x r else .node l x (PT.putF v f r (n / 2 - 1))
def PT.put {α : Type} (t : PT α) (n : Nat) (v : Option α) : PT α := PT.putF v n t n
theorem cond_beq {β : Sort _} (a b : Nat) (x y : β) : (bif Nat.beq a b then x else y) = if a = b then x else y := by
  by_cases h : a = b
  · subst h; simp
  · rw [if_neg h]
    have : Nat.beq a b = false := by
      cases hb : Nat.beq a b with
      | true => exact absurd (Nat.eq_of_beq_eq_true hb) h
      | false => rfl
    simp [this]
theorem PT.get_nil {α : Type} (n : Nat) : (PT.nil : PT α).get n = none := rfl
theorem PT.get_node {α : Type} (l : PT α) (v : Option α) (r : PT α) (n : Nat) :
    (PT.node l v r).get n = if n = 0 then v else if n % 2 = 1 then l.get (n / 2) else r.get (n / 2 - 1) := by
  simp only [PT.get, cond_beq]
theorem PT.get_putF {α : Type} (v : Option α) : ∀ (f : Nat) (t : PT α) (n m : Nat), n ≤ f → (PT.putF v f t n).get m = if m = n then v else t.get m := by
  intro f
  induction f with
  | zero =>
    intro t n m h
    have h0 : n = 0 := by omega
    subst h0
    cases t with
    | nil => simp only [PT.putF, PT.get_node, PT.get_nil]; by_cases hm : m = 0 <;> simp [hm]
    | node l x r => simp only [PT.putF, PT.get_node]; by_cases hm : m = 0 <;> simp [hm]
  | succ f ih =>
    intro t n m h
    cases t with
    | nil =>
      simp only [PT.putF, cond_beq]
      by_cases hn : n = 0
      · subst hn
        simp only [if_true, PT.get_node, PT.get_nil]
        by_cases hm : m = 0 <;> simp [hm]
      · rw [if_neg hn]
        by_cases h1 : n % 2 = 1
        · rw [if_pos h1]
          simp only [PT.get_node, PT.get_nil]
          by_cases hm : m = 0
          · rw [if_pos hm, if_neg (by omega)]
          · rw [if_neg hm]
            by_cases hm1 : m % 2 = 1
            · rw [if_pos hm1, ih _ _ _ (by omega), PT.get_nil]
              by_cases e : m = n
              · rw [if_pos e, if_pos (by omega)]
              · rw [if_neg e, if_neg (by omega)]
            · rw [if_neg hm1, if_neg (by omega)]
        · rw [if_neg h1]
          simp only [PT.get_node, PT.get_nil]
          by_cases hm : m = 0
          · rw [if_pos hm, if_neg (by omega)]
          · rw [if_neg hm]
            by_cases hm1 : m % 2 = 1
            · rw [if_pos hm1, if_neg (by omega)]
            · rw [if_neg hm1, ih _ _ _ (by omega), PT.get_nil]
              by_cases e : m = n
              · rw [if_pos e, if_pos (by omega)]
              · rw [if_neg e, if_neg (by omega)]
    | node l x r =>
      simp only [PT.putF, cond_beq]
      by_cases hn : n = 0
      · subst hn
        simp only [if_true, PT.get_node]
        by_cases hm : m = 0 <;> simp [hm]
      · rw [if_neg hn]
        by_cases h1 : n % 2 = 1
        · rw [if_pos h1]
          simp only [PT.get_node]
          by_cases hm : m = 0
          · rw [if_pos hm, if_neg (by omega), if_pos hm]
          · rw [if_neg hm, if_neg hm]
            by_cases hm1 : m % 2 = 1
            · rw [if_pos hm1, if_pos hm1, ih _ _ _ (by omega)]
              by_cases e : m = n
              · rw [if_pos e, if_pos (by omega)]
              · rw [if_neg e, if_neg (by omega)]
            · rw [if_neg hm1, if_neg hm1, if_neg (by omega)]
        · rw [if_neg h1]
          simp only [PT.get_node]
          by_cases hm : m = 0
          · rw [if_pos hm, if_neg (by omega), if_pos hm]
          · rw [if_neg hm, if_neg hm]
            by_cases hm1 : m % 2 = 1
            · rw [if_pos hm1, if_pos hm1, if_neg (by omega)]
            · rw [if_neg hm1, if_neg hm1, ih _ _ _ (by omega)]
              by_cases e : m = n
              · rw [if_pos e, if_pos (by omega)]
              · rw [if_neg e, if_neg (by omega)]
theorem PT.get_put {α : Type} (t : PT α) (n m : Nat) (v : Option α) : (t.put n v).get m = if m = n then v else t.get m := PT.get_putF v n t n m (Nat.le_refl _)
theorem PT.get_put_same {α : Type} (t : PT α) (n : Nat) (v : Option α) : (t.put n v).get n = v := by rw [PT.get_put, if_pos rfl]
theorem PT.get_put_ne {α : Type} (t : PT α) {n m : Nat} (v : Option α) (h : m ≠ n) : (t.put n v).get m = t.get m := by rw [PT.get_put, if_neg h]

/-- A value over names. -/
inductive SV where
  | lit (v : Value)
  | ptr (n off : Nat)
  | sl (n off len : Nat) (cap : Option Nat) (k : Nat)
  | agg (l : List SV)
  | tup (l : List SV)
  | ifc (t : TypeId) (v : SV)
  | fn (f : Fn) (first captured : List SV)
  | mp (n : Nat)
  | cut (n off l k : Nat)      -- s[l:] of a slice with l elements and an unknown capacity: where it begins hangs on whether there is room
  deriving Inhabited

/-- Of a name: its block, and how many cells that has. -/
abbrev Env := Nat → Option (Nat × Nat)

mutual
def den (ρ : Env) : SV → Option Value
  | .lit v => some v
  | .ptr n o => (ρ n).map fun p => .pointer (some ⟨p.1, o, none⟩)
  | .sl n o len cap k => (ρ n).bind fun p => match cap with
    | some c => some (.slice (some ⟨p.1, o, none⟩) len c)
    | none => if o + len * k ≤ p.2 then some (.slice (some ⟨p.1, o, none⟩) len ((p.2 - o) / k)) else none
  | .agg l => (denL ρ l).map fun vs => .agg vs.toArray
  | .tup l => (denL ρ l).map fun vs => .tuple vs.toArray
  | .ifc t s => (den ρ s).map fun v => .iface t v
  | .fn f a b => (denL ρ a).bind fun x => (denL ρ b).map fun y => .func f x.toArray y.toArray
  | .mp n => (ρ n).map fun p => .map (some p.1)
  | .cut n o l k => (ρ n).bind fun p => if o + l * k ≤ p.2 then some (.slice (some ⟨p.1, if (p.2 - o) / k = l then o else o + l * k, none⟩) 0 ((p.2 - o) / k - l)) else none
def denL (ρ : Env) : List SV → Option (List Value)
  | [] => some []
  | s :: r => (den ρ s).bind fun v => (denL ρ r).map (v :: ·)
end

/-- More names. -/
def More (ρ ρ' : Env) : Prop := ∀ n x, ρ n = some x → ρ' n = some x
theorem More.refl (ρ : Env) : More ρ ρ := fun _ _ h => h
theorem More.trans {a b c : Env} (h : More a b) (k : More b c) : More a c := fun n x e => k n x (h n x e)

mutual
theorem den_more {ρ ρ' : Env} (h : More ρ ρ') : ∀ (s : SV) (v : Value), den ρ s = some v → den ρ' s = some v
  | .lit v, u, e => by simpa [den] using e
  | .ptr n o, u, e => by
    cases hr : ρ n with
    | none => simp [den, hr] at e
    | some p => simp [den, hr] at e; simp [den, h n p hr, e]
  | .sl n o len cap k, u, e => by
    cases hr : ρ n with
    | none => simp [den, hr] at e
    | some p =>
      simp only [den, hr, h n p hr] at e ⊢
      exact e
  | .agg l, u, e => by
    cases hl : denL ρ l with
    | none => simp [den, hl] at e
    | some vs => simp [den, hl] at e; simp [den, denL_more h l vs hl, e]
  | .tup l, u, e => by
    cases hl : denL ρ l with
    | none => simp [den, hl] at e
    | some vs => simp [den, hl] at e; simp [den, denL_more h l vs hl, e]
  | .ifc t s, u, e => by
    cases hl : den ρ s with
    | none => simp [den, hl] at e
    | some v => simp [den, hl] at e; simp [den, den_more h s v hl, e]
  | .fn f a b, u, e => by
    cases ha : denL ρ a with
    | none => simp [den, ha] at e
    | some x =>
      cases hb : denL ρ b with
      | none => simp [den, ha, hb] at e
      | some y => simp [den, ha, hb] at e; simp [den, denL_more h a x ha, denL_more h b y hb, e]
  | .mp n, u, e => by
    cases hr : ρ n with
    | none => simp [den, hr] at e
    | some p => simp [den, hr] at e; simp [den, h n p hr, e]
  | .cut n o l k, u, e => by
    cases hr : ρ n with
    | none => simp [den, hr] at e
    | some p =>
      simp only [den, hr, h n p hr] at e ⊢
      exact e
theorem denL_more {ρ ρ' : Env} (h : More ρ ρ') : ∀ (l : List SV) (vs : List Value), denL ρ l = some vs → denL ρ' l = some vs
  | [], vs, e => by simpa [denL] using e
  | s :: r, vs, e => by
    cases hs : den ρ s with
    | none => simp [denL, hs] at e
    | some v =>
      cases hr : denL ρ r with
      | none => simp [denL, hs, hr] at e
      | some us => simp [denL, hs, hr] at e; simp [denL, den_more h s v hs, denL_more h r us hr, e]
end

theorem denL_cons {ρ : Env} {s : SV} {r : List SV} {vs : List Value} : denL ρ (s :: r) = some vs ↔ ∃ v us, den ρ s = some v ∧ denL ρ r = some us ∧ vs = v :: us := by
  constructor
  · intro e
    cases hs : den ρ s with
    | none => simp [denL, hs] at e
    | some v =>
      cases hr : denL ρ r with
      | none => simp [denL, hs, hr] at e
      | some us => simp [denL, hs, hr] at e; exact ⟨v, us, rfl, rfl, e.symm⟩
  · rintro ⟨v, us, h1, h2, rfl⟩
    simp [denL, h1, h2]
theorem denL_length {ρ : Env} : ∀ {l : List SV} {vs : List Value}, denL ρ l = some vs → vs.length = l.length
  | [], vs, e => by simp [denL] at e; simp [← e]
  | s :: r, vs, e => by
    obtain ⟨v, us, h1, h2, rfl⟩ := denL_cons.1 e
    simp [denL_length h2]
theorem denL_append {ρ : Env} : ∀ {l m : List SV} {vs us : List Value}, denL ρ l = some vs → denL ρ m = some us → denL ρ (l ++ m) = some (vs ++ us)
  | [], m, vs, us, h, k => by simp [denL] at h; subst h; simpa using k
  | s :: r, m, vs, us, h, k => by
    obtain ⟨v, xs, h1, h2, rfl⟩ := denL_cons.1 h
    exact denL_cons.2 ⟨v, xs ++ us, h1, denL_append h2 k, rfl⟩
theorem denL_take {ρ : Env} : ∀ {l : List SV} {vs : List Value} (n : Nat), denL ρ l = some vs → denL ρ (l.take n) = some (vs.take n)
  | [], vs, n, h => by simp [denL] at h; subst h; simp [denL]
  | s :: r, vs, 0, h => by simp [denL]
  | s :: r, vs, n + 1, h => by
    obtain ⟨v, xs, h1, h2, rfl⟩ := denL_cons.1 h
    exact denL_cons.2 ⟨v, xs.take n, h1, denL_take n h2, rfl⟩
theorem denL_drop {ρ : Env} : ∀ {l : List SV} {vs : List Value} (n : Nat), denL ρ l = some vs → denL ρ (l.drop n) = some (vs.drop n)
  | [], vs, n, h => by simp [denL] at h; subst h; simp [denL]
  | s :: r, vs, 0, h => by simpa using h
  | s :: r, vs, n + 1, h => by
    obtain ⟨v, xs, h1, h2, rfl⟩ := denL_cons.1 h
    simpa using denL_drop n h2
theorem denL_get {ρ : Env} : ∀ {l : List SV} {vs : List Value} {i : Nat} {s : SV}, denL ρ l = some vs → l[i]? = some s → ∃ v, vs[i]? = some v ∧ den ρ s = some v
  | [], vs, i, s, h, e => by simp at e
  | t :: r, vs, 0, s, h, e => by
    obtain ⟨v, xs, h1, h2, rfl⟩ := denL_cons.1 h
    simp at e; subst e
    exact ⟨v, rfl, h1⟩
  | t :: r, vs, i + 1, s, h, e => by
    obtain ⟨v, xs, h1, h2, rfl⟩ := denL_cons.1 h
    simpa using denL_get h2 (by simpa using e)
theorem denL_lits {ρ : Env} : ∀ (vs : List Value), denL ρ (vs.map SV.lit) = some vs
  | [] => rfl
  | v :: r => by simpa using denL_cons.2 ⟨v, r, by simp [den], denL_lits r, rfl⟩

/-- The cells of a value. -/
def SV.cells : SV → List SV
  | .agg l => l
  | s => [s]
def SV.one : SV → Bool
  | .lit v => v.oneCell'
  | .agg _ => false
  | .tup _ => false
  | _ => true
theorem one_of {ρ : Env} {s : SV} {v : Value} (h : s.one = true) (e : den ρ s = some v) : v.oneCell' = true := by
  cases s with
  | lit u => simp [den] at e; subst e; exact h
  | ptr n o => cases hr : ρ n with
    | none => simp [den, hr] at e
    | some p => simp [den, hr] at e; subst e; rfl
  | sl n o len cap k => cases hr : ρ n with
    | none => simp [den, hr] at e
    | some p =>
      cases cap with
      | some c => simp [den, hr] at e; subst e; rfl
      | none =>
        simp only [den, hr, Option.bind_some] at e
        split at e
        · injection e with e; subst e; rfl
        · cases e
  | agg l => cases h
  | tup l => cases h
  | ifc t s => cases hs : den ρ s with
    | none => simp [den, hs] at e
    | some u => simp [den, hs] at e; subst e; rfl
  | fn f a b => cases ha : denL ρ a with
    | none => simp [den, ha] at e
    | some x => cases hb : denL ρ b with
      | none => simp [den, ha, hb] at e
      | some y => simp [den, ha, hb] at e; subst e; rfl
  | mp n => cases hr : ρ n with
    | none => simp [den, hr] at e
    | some p => simp [den, hr] at e; subst e; rfl
  | cut n o l k => cases hr : ρ n with
    | none => simp [den, hr] at e
    | some p =>
      simp only [den, hr, Option.bind_some] at e
      split at e
      · injection e with e; subst e; rfl
      · cases e
theorem cells_one {v : Value} (h : v.oneCell' = true) : v.cells = #[v] := by
  cases v <;> first | rfl | cases h
theorem den_cells {ρ : Env} {s : SV} {v : Value} (h : s.cells.all SV.one = true) (e : den ρ s = some v) : denL ρ s.cells = some v.cells.toList ∧ ∀ u ∈ v.cells.toList, u.oneCell' = true := by
  by_cases ha : ∃ l, s = .agg l
  · obtain ⟨l, rfl⟩ := ha
    cases hl : denL ρ l with
    | none => simp [den, hl] at e
    | some vs =>
      simp [den, hl] at e
      subst e
      refine ⟨by simpa [SV.cells, Value.cells] using hl, ?_⟩
      intro u hu
      simp only [Value.cells] at hu
      have hu' : u ∈ vs := by simpa using hu
      obtain ⟨i, hi⟩ := List.mem_iff_getElem?.1 hu'
      have hlen := denL_length hl
      have hlt : i < l.length := by
        have := (List.getElem?_eq_some_iff.1 hi).1
        omega
      obtain ⟨v, hv, hd⟩ := denL_get hl (List.getElem?_eq_getElem hlt)
      rw [hi] at hv
      injection hv with hv
      subst hv
      refine one_of ?_ hd
      have := List.all_eq_true.1 h l[i] (by simp [SV.cells])
      exact this
  · have hc : s.cells = [s] := by
      cases s <;> first | rfl | exact absurd ⟨_, rfl⟩ ha
    rw [hc] at h
    have h1 : s.one = true := by simpa using h
    have h2 := one_of h1 e
    rw [hc, cells_one h2]
    refine ⟨denL_cons.2 ⟨v, [], e, rfl, rfl⟩, ?_⟩
    intro u hu
    simp at hu
    subst hu
    exact h2

/-- A thing that lies under a name. -/
inductive SO where
  | row (cells : List SV) (elem : TypeId) (slack : Bool)
  | map (es : List (SV × SV × Nat)) (clock : Nat)
  | iter (m : Option Nat) (since : Nat) (seen : List Nat) (stepped : Nat)
  deriving Inhabited
structure Slot where
  lock : Bool
  o : SO
  deriving Inhabited
abbrev Heap := PT Slot

def denE (ρ : Env) : List (SV × SV × Nat) → List MapEntry → Prop
  | [], es => es = []
  | (k, v, b) :: r, es => ∃ kv vv rest, den ρ k = some kv ∧ den ρ v = some vv ∧ denE ρ r rest ∧ es = { key := kv, val := vv, born := b } :: rest
theorem denE_more {ρ ρ' : Env} (h : More ρ ρ') : ∀ (l : List (SV × SV × Nat)) (es : List MapEntry), denE ρ l es → denE ρ' l es
  | [], es, e => e
  | (k, v, b) :: r, es, ⟨kv, vv, rest, h1, h2, h3, h4⟩ => ⟨kv, vv, rest, den_more h k kv h1, den_more h v vv h2, denE_more h r rest h3, h4⟩

def OSat (ρ : Env) : SO → Obj → Nat → Prop
  | .row cs e slack, ob, sz => ∃ vs rest, denL ρ cs = some vs ∧ ob = .cells (vs ++ rest).toArray e (0, 0) ∧ (slack = false → rest = []) ∧ sz = (vs ++ rest).length
  | .map es clock, ob, _ => ∃ entries : Array MapEntry, denE ρ es entries.toList ∧ ob = .map entries clock
  | .iter m since seen stepped, ob, _ => ∃ r : Option Nat, (match m with | none => r = none | some n => ∃ p, ρ n = some p ∧ r = some p.1) ∧ ob = .mapIter r since seen.toArray stepped
theorem OSat.more {ρ ρ' : Env} (h : More ρ ρ') {o : SO} {ob : Obj} {sz : Nat} (k : OSat ρ o ob sz) : OSat ρ' o ob sz := by
  cases o with
  | row cs e slack =>
    obtain ⟨vs, rest, h1, h2, h3, h4⟩ := k
    exact ⟨vs, rest, denL_more h cs vs h1, h2, h3, h4⟩
  | map es clock =>
    obtain ⟨en, h1, h2⟩ := k
    exact ⟨en, denE_more h es _ h1, h2⟩
  | iter m since seen stepped =>
    obtain ⟨r, h1, h2⟩ := k
    refine ⟨r, ?_, h2⟩
    cases m with
    | none => exact h1
    | some n => obtain ⟨p, hp, hr⟩ := h1; exact ⟨p, h n p hp, hr⟩

/-- The world holds what the heap over names says; its blocks lie from 'base' on, and no two names in it have one block. -/
structure Sat (base : Nat) (ρ : Env) (H : Nat → Option Slot) (w : World) : Prop where
  room : base ≤ w.heap.size
  held : ∀ n s, H n = some s → ∃ p ob, ρ n = some p ∧ base ≤ p.1 ∧ w.heap[p.1]? = some ob ∧ OSat ρ s.o ob p.2
  apart : ∀ n m s t p q, H n = some s → H m = some t → ρ n = some p → ρ m = some q → p.1 = q.1 → n = m

theorem Sat.fewer {base : Nat} {ρ : Env} {H G : Nat → Option Slot} {w : World} (h : Sat base ρ H w) (hg : ∀ n s, G n = some s → ∃ t, H n = some t ∧ t.o = s.o) : Sat base ρ G w :=
  ⟨h.room, fun n s e => by
    obtain ⟨t, ht, ho⟩ := hg n s e
    obtain ⟨p, ob, h1, h2, h3, h4⟩ := h.held n t ht
    exact ⟨p, ob, h1, h2, h3, ho ▸ h4⟩, fun n m s t p q h1 h2 h3 h4 h5 => by
    obtain ⟨s', hs, _⟩ := hg n s h1
    obtain ⟨t', ht, _⟩ := hg m t h2
    exact h.apart n m s' t' p q hs ht h3 h4 h5⟩
theorem Sat.lt {base : Nat} {ρ : Env} {H : Nat → Option Slot} {w : World} (h : Sat base ρ H w) {n : Nat} {s : Slot} {p : Nat × Nat} (e : H n = some s) (hp : ρ n = some p) : p.1 < w.heap.size := by
  obtain ⟨q, ob, h1, h2, h3, h4⟩ := h.held n s e
  rw [hp] at h1
  injection h1 with h1
  subst h1
  exact (Array.getElem?_eq_some_iff.1 h3).1

/-- What a step of the machine leaves alone: all blocks but those of names that it may write; and what may be written behind it is new, or might be written before. -/
structure Keep (H : Nat → Option Slot) (ρ : Env) (w : World) (H' : Nat → Option Slot) (ρ' : Env) (w' : World) : Prop where
  os : w'.os = w.os
  tape : w'.tape = w.tape
  output : w'.output = w.output
  size : w.heap.size ≤ w'.heap.size
  block : ∀ b, b < w.heap.size → (∀ n s p, H n = some s → s.lock = false → ρ n = some p → p.1 ≠ b) → w'.heap[b]? = w.heap[b]?
  own : ∀ n s p, H' n = some s → s.lock = false → ρ' n = some p → w.heap.size ≤ p.1 ∨ ∃ m t q, H m = some t ∧ t.lock = false ∧ ρ m = some q ∧ q.1 = p.1
theorem Keep.refl (H : Nat → Option Slot) (ρ : Env) (w : World) : Keep H ρ w H ρ w := ⟨rfl, rfl, rfl, Nat.le_refl _, fun _ _ _ => rfl, fun n s p h1 h2 h3 => .inr ⟨n, s, p, h1, h2, h3, rfl⟩⟩
theorem Keep.trans {H H' H'' : Nat → Option Slot} {ρ ρ' ρ'' : Env} {w w' w'' : World} (h : Keep H ρ w H' ρ' w') (k : Keep H' ρ' w' H'' ρ'' w'') : Keep H ρ w H'' ρ'' w'' :=
  ⟨k.os.trans h.os, k.tape.trans h.tape, k.output.trans h.output, Nat.le_trans h.size k.size, fun b hb hn => by
    rw [k.block b (Nat.lt_of_lt_of_le hb h.size) ?_, h.block b hb hn]
    intro n s p h1 h2 h3 h4
    rcases h.own n s p h1 h2 h3 with h5 | ⟨m, t, q, g1, g2, g3, g4⟩
    · omega
    · exact hn m t q g1 g2 g3 (g4.trans h4), fun n s p h1 h2 h3 => by
    rcases k.own n s p h1 h2 h3 with h5 | ⟨m, t, q, g1, g2, g3, g4⟩
    · exact .inl (Nat.le_trans h.size h5)
    · rcases h.own m t q g1 g2 g3 with h5 | ⟨m', t', q', k1, k2, k3, k4⟩
      · exact .inl (g4 ▸ h5)
      · exact .inr ⟨m', t', q', k1, k2, k3, k4.trans g4⟩⟩
/-- The same of a heap that may write more. -/
theorem Keep.wider {G H H' : Nat → Option Slot} {ρ ρ' : Env} {w w' : World} (h : Keep G ρ w H' ρ' w') (hg : ∀ n s, G n = some s → s.lock = false → ∃ t, H n = some t ∧ t.lock = false) : Keep H ρ w H' ρ' w' :=
  ⟨h.os, h.tape, h.output, h.size, fun b hb hn => h.block b hb (fun n s p h1 h2 h3 => by
    obtain ⟨t, ht, hl⟩ := hg n s h1 h2
    exact hn n t p ht hl h3), fun n s p h1 h2 h3 => by
    rcases h.own n s p h1 h2 h3 with h5 | ⟨m, t, q, g1, g2, g3, g4⟩
    · exact .inl h5
    · obtain ⟨t', ht, hl⟩ := hg m t g1 g2
      exact .inr ⟨m, t', q, ht, hl, g3, g4⟩⟩

/-- Names from lo to below hi are new; all others stay. -/
structure Ext (ρ ρ' : Env) (lo hi : Nat) : Prop where
  more : More ρ ρ'
  off : ∀ n, (n < lo ∨ hi ≤ n) → ρ' n = ρ n
theorem Ext.refl (ρ : Env) (lo hi : Nat) : Ext ρ ρ lo hi := ⟨More.refl ρ, fun _ _ => rfl⟩
theorem Ext.trans {a b c : Env} {lo mid hi : Nat} (h : Ext a b lo mid) (k : Ext b c mid hi) (h1 : lo ≤ mid) (h2 : mid ≤ hi) : Ext a c lo hi :=
  ⟨h.more.trans k.more, fun n hn => by rw [k.off n (by omega), h.off n (by omega)]⟩
end Ev
end Go.Proofs.YtekhboekiehdhaaGreatDoor
