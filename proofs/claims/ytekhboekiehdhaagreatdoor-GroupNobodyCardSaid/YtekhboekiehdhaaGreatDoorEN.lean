/- Calls looked up: a call that was proved over a small heap stands for that call over any heap that holds it. -/
import Derived.Test.YtekhboekiehdhaaGreatDoorEB
set_option linter.unusedVariables false
set_option linter.unusedSimpArgs false
namespace Go.Proofs.YtekhboekiehdhaaGreatDoor
namespace Ev
open Go.RowKit

def natsEq (a b : Nat) : Bool := Nat.beq a b
theorem natsEq_iff {a b : Nat} (h : natsEq a b = true) : a = b := Nat.eq_of_beq_eq_true h
def intEq : Int → Int → Bool
  | .ofNat a, .ofNat b => Nat.beq a b
  | .negSucc a, .negSucc b => Nat.beq a b
  | _, _ => false
theorem intEq_iff : ∀ {a b : Int}, intEq a b = true → a = b
  | .ofNat a, .ofNat b, h => by rw [Nat.eq_of_beq_eq_true h]
  | .negSucc a, .negSucc b, h => by rw [Nat.eq_of_beq_eq_true h]
  | .ofNat a, .negSucc b, h => by cases h
  | .negSucc a, .ofNat b, h => by cases h
def kindEq (a b : IntKind) : Bool := if a = b then true else false
theorem kindEq_iff {a b : IntKind} (h : kindEq a b = true) : a = b := by
  unfold kindEq at h
  split at h
  · assumption
  · cases h
def boolEq : Bool → Bool → Bool
  | true, true => true
  | false, false => true
  | _, _ => false
theorem boolEq_iff : ∀ {a b : Bool}, boolEq a b = true → a = b
  | true, true, _ => rfl
  | false, false, _ => rfl
  | true, false, h => by cases h
  | false, true, h => by cases h
def allEq {α : Type} (f : α → α → Bool) : List α → List α → Bool
  | [], [] => true
  | a :: r, b :: s => bif f a b then allEq f r s else false
  | _, _ => false
theorem allEq_iff {α : Type} {f : α → α → Bool} (hf : ∀ a b, f a b = true → a = b) : ∀ {l m : List α}, allEq f l m = true → l = m
  | [], [], _ => rfl
  | [], _ :: _, h => by cases h
  | _ :: _, [], h => by cases h
  | a :: r, b :: s, h => by
    simp only [allEq] at h
    cases hb : f a b with
    | true =>
      rw [hb] at h
      have h1 := hf a b hb
      have h2 : r = s := allEq_iff hf (by simpa using h)
      rw [h1, h2]
    | false => rw [hb] at h; cases h
theorem toList_inj {α : Type} {a b : Array α} (h : a.toList = b.toList) : a = b := Array.toList_inj.1 h
def eqV : Nat → Value → Value → Bool
  | 0, _, _ => false
  | f + 1, a, b => match a, b with
    | .int k x, .int k' y => bif kindEq k k' then intEq x y else false
    | .string s, .string t => bytesEq s.data.toList t.data.toList
    | .bool x, .bool y => boolEq x y
    | .pointer none, .pointer none => true
    | .pointer (some ⟨b, o, none⟩), .pointer (some ⟨b', o', none⟩) => bif Nat.beq b b' then Nat.beq o o' else false
    | .slice none l c, .slice none l' c' => bif Nat.beq l l' then Nat.beq c c' else false
    | .map none, .map none => true
    | .nilFunc, .nilFunc => true
    | .nilIface, .nilIface => true
    | .func (.func g) x y, .func (.func g') x' y' => bif Nat.beq g g' then (bif allEq (eqV f) x.toList x'.toList then allEq (eqV f) y.toList y'.toList else false) else false
    | .agg x, .agg y => allEq (eqV f) x.toList y.toList
    | .tuple x, .tuple y => allEq (eqV f) x.toList y.toList
    | _, _ => false
theorem cond_and {a b : Bool} (h : (bif a then b else false) = true) : a = true ∧ b = true := by
  cases a with
  | true => exact ⟨rfl, h⟩
  | false => cases h
theorem eqV_iff : ∀ (f : Nat) (a b : Value), eqV f a b = true → a = b := by
  intro f
  induction f with
  | zero => intro a b h; cases h
  | succ f ih =>
    intro a b h
    simp only [eqV] at h
    split at h
    · obtain ⟨h1, h2⟩ := cond_and h
      rw [kindEq_iff h1, intEq_iff h2]
    · rename_i s t
      rw [bytesEq_iff] at h
      cases s; cases t
      simp only [Array.toList_inj] at h
      rw [h]
    · rw [boolEq_iff h]
    · rfl
    · obtain ⟨h1, h2⟩ := cond_and h
      rw [Nat.eq_of_beq_eq_true h1, Nat.eq_of_beq_eq_true h2]
    · obtain ⟨h1, h2⟩ := cond_and h
      rw [Nat.eq_of_beq_eq_true h1, Nat.eq_of_beq_eq_true h2]
    · rfl
    · rfl
    · rfl
    · obtain ⟨h1, h2⟩ := cond_and h
      obtain ⟨h2, h3⟩ := cond_and h2
      rw [Nat.eq_of_beq_eq_true h1, toList_inj (allEq_iff ih h2), toList_inj (allEq_iff ih h3)]
    · rw [toList_inj (allEq_iff ih h)]
    · rw [toList_inj (allEq_iff ih h)]
    · cases h
def optEq : Option Nat → Option Nat → Bool
  | none, none => true
  | some a, some b => Nat.beq a b
  | _, _ => false
theorem optEq_iff : ∀ {a b : Option Nat}, optEq a b = true → a = b
  | none, none, _ => rfl
  | some a, some b, h => by rw [Nat.eq_of_beq_eq_true h]
  | none, some _, h => by cases h
  | some _, none, h => by cases h
def eqS : Nat → SV → SV → Bool
  | 0, _, _ => false
  | f + 1, a, b => match a, b with
    | .lit x, .lit y => eqV f x y
    | .ptr n o, .ptr n' o' => bif Nat.beq n n' then Nat.beq o o' else false
    | .sl n o l c k, .sl n' o' l' c' k' => bif Nat.beq n n' then (bif Nat.beq o o' then (bif Nat.beq l l' then (bif optEq c c' then Nat.beq k k' else false) else false) else false) else false
    | .agg x, .agg y => allEq (eqS f) x y
    | .tup x, .tup y => allEq (eqS f) x y
    | .ifc t x, .ifc t' y => bif Nat.beq t t' then eqS f x y else false
    | .fn (.func g) x y, .fn (.func g') x' y' => bif Nat.beq g g' then (bif allEq (eqS f) x x' then allEq (eqS f) y y' else false) else false
    | .mp n, .mp n' => Nat.beq n n'
    | .cut n o l k, .cut n' o' l' k' => bif Nat.beq n n' then (bif Nat.beq o o' then (bif Nat.beq l l' then Nat.beq k k' else false) else false) else false
    | _, _ => false
theorem eqS_iff : ∀ (f : Nat) (a b : SV), eqS f a b = true → a = b := by
  intro f
  induction f with
  | zero => intro a b h; cases h
  | succ f ih =>
    intro a b h
    simp only [eqS] at h
    split at h
    · rw [eqV_iff f _ _ h]
    · obtain ⟨h1, h2⟩ := cond_and h
      rw [Nat.eq_of_beq_eq_true h1, Nat.eq_of_beq_eq_true h2]
    · obtain ⟨h1, h2⟩ := cond_and h
      obtain ⟨h2, h3⟩ := cond_and h2
      obtain ⟨h3, h4⟩ := cond_and h3
      obtain ⟨h4, h5⟩ := cond_and h4
      rw [Nat.eq_of_beq_eq_true h1, Nat.eq_of_beq_eq_true h2, Nat.eq_of_beq_eq_true h3, optEq_iff h4, Nat.eq_of_beq_eq_true h5]
    · rw [allEq_iff ih h]
    · rw [allEq_iff ih h]
    · obtain ⟨h1, h2⟩ := cond_and h
      rw [Nat.eq_of_beq_eq_true h1, ih _ _ h2]
    · obtain ⟨h1, h2⟩ := cond_and h
      obtain ⟨h2, h3⟩ := cond_and h2
      rw [Nat.eq_of_beq_eq_true h1, allEq_iff ih h2, allEq_iff ih h3]
    · rw [Nat.eq_of_beq_eq_true h]
    · obtain ⟨h1, h2⟩ := cond_and h
      obtain ⟨h2, h3⟩ := cond_and h2
      obtain ⟨h3, h4⟩ := cond_and h3
      rw [Nat.eq_of_beq_eq_true h1, Nat.eq_of_beq_eq_true h2, Nat.eq_of_beq_eq_true h3, Nat.eq_of_beq_eq_true h4]
    · cases h
def eqE (a b : SV × SV × Nat) : Bool := bif eqS 20 a.1 b.1 then (bif eqS 20 a.2.1 b.2.1 then Nat.beq a.2.2 b.2.2 else false) else false
theorem eqE_iff (a b : SV × SV × Nat) (h : eqE a b = true) : a = b := by
  obtain ⟨h1, h2⟩ := cond_and h
  obtain ⟨h2, h3⟩ := cond_and h2
  obtain ⟨a1, a2, a3⟩ := a
  obtain ⟨b1, b2, b3⟩ := b
  simp only at h1 h2 h3
  rw [eqS_iff _ _ _ h1, eqS_iff _ _ _ h2, Nat.eq_of_beq_eq_true h3]
def eqO : SO → SO → Bool
  | .row c e s, .row c' e' s' => bif allEq (eqS 20) c c' then (bif Nat.beq e e' then boolEq s s' else false) else false
  | .map e c, .map e' c' => bif allEq eqE e e' then Nat.beq c c' else false
  | .iter (some m) s l p, .iter (some m') s' l' p' => bif Nat.beq m m' then (bif Nat.beq s s' then (bif allEq Nat.beq l l' then Nat.beq p p' else false) else false) else false
  | _, _ => false
theorem eqO_iff {a b : SO} (h : eqO a b = true) : a = b := by
  unfold eqO at h
  split at h
  · obtain ⟨h1, h2⟩ := cond_and h
    obtain ⟨h2, h3⟩ := cond_and h2
    rw [allEq_iff (eqS_iff 20) h1, Nat.eq_of_beq_eq_true h2, boolEq_iff h3]
  · obtain ⟨h1, h2⟩ := cond_and h
    rw [allEq_iff eqE_iff h1, Nat.eq_of_beq_eq_true h2]
  · obtain ⟨h1, h2⟩ := cond_and h
    obtain ⟨h2, h3⟩ := cond_and h2
    obtain ⟨h3, h4⟩ := cond_and h3
    rw [Nat.eq_of_beq_eq_true h1, Nat.eq_of_beq_eq_true h2, allEq_iff (fun a b h => Nat.eq_of_beq_eq_true h) h3, Nat.eq_of_beq_eq_true h4]
  · cases h
def eqSlot (a b : Slot) : Bool := bif boolEq a.lock b.lock then eqO a.o b.o else false
theorem eqSlot_iff {a b : Slot} (h : eqSlot a b = true) : a = b := by
  obtain ⟨h1, h2⟩ := cond_and h
  obtain ⟨a1, a2⟩ := a
  obtain ⟨b1, b2⟩ := b
  simp only at h1 h2
  rw [boolEq_iff h1, eqO_iff h2]
/-- All that the first holds the second holds. -/
def optSub : Option Slot → Option Slot → Bool
  | none, _ => true
  | some a, some b => eqSlot a b
  | some _, none => false
def subH : PT Slot → PT Slot → Bool
  | .nil, _ => true
  | .node l v r, .node l' v' r' => bif optSub v v' then (bif subH l l' then subH r r' else false) else false
  | .node l v r, .nil => bif optSub v none then (bif subH l .nil then subH r .nil else false) else false
theorem optSub_get {v v' : Option Slot} (h : optSub v v' = true) {s : Slot} (e : v = some s) : v' = some s := by
  subst e
  cases v' with
  | none => cases h
  | some t => rw [eqSlot_iff h]
theorem subH_get : ∀ (A B : PT Slot), subH A B = true → ∀ (x : Nat) (s : Slot), A.get x = some s → B.get x = some s
  | .nil, _, h, x, s, e => by cases e
  | .node l v r, .node l' v' r', h, x, s, e => by
    simp only [subH] at h
    obtain ⟨h1, h2⟩ := cond_and h
    obtain ⟨h2, h3⟩ := cond_and h2
    rw [PT.get_node] at e ⊢
    by_cases hx : x = 0
    · rw [if_pos hx] at e ⊢
      exact optSub_get h1 e
    · rw [if_neg hx] at e ⊢
      by_cases hx2 : x % 2 = 1
      · rw [if_pos hx2] at e ⊢
        exact subH_get l l' h2 _ s e
      · rw [if_neg hx2] at e ⊢
        exact subH_get r r' h3 _ s e
  | .node l v r, .nil, h, x, s, e => by
    simp only [subH] at h
    obtain ⟨h1, h2⟩ := cond_and h
    obtain ⟨h2, h3⟩ := cond_and h2
    rw [PT.get_node] at e
    split at e
    · exact absurd (optSub_get h1 e) (by simp)
    · split at e
      · exact subH_get l .nil h2 (x / 2) s e
      · exact subH_get r .nil h3 (x / 2 - 1) s e

/-- What lies behind a call over a part: of the part what the call left, the rest as it was. -/
def over1 : Option Slot → Option Slot → Option Slot → Option Slot
  | h, e, g => match g with
    | some s => some s
    | none => match e with
      | some _ => none
      | none => h
def over : PT Slot → PT Slot → PT Slot → PT Slot
  | .nil, _, G => G
  | .node l v r, .nil, .nil => .node l v r
  | .node l v r, .nil, .node l2 v2 r2 => .node (over l .nil l2) (over1 v none v2) (over r .nil r2)
  | .node l v r, .node l1 v1 r1, .nil => .node (over l l1 .nil) (over1 v v1 none) (over r r1 .nil)
  | .node l v r, .node l1 v1 r1, .node l2 v2 r2 => .node (over l l1 l2) (over1 v v1 v2) (over r r1 r2)
theorem over_get : ∀ (H E G : PT Slot) (x : Nat) (s : Slot), (over H E G).get x = some s → G.get x = some s ∨ (E.get x = none ∧ G.get x = none ∧ H.get x = some s)
  | .nil, E, G, x, s, e => by simp only [over] at e; exact .inl e
  | .node l v r, .nil, .nil, x, s, e => .inr ⟨rfl, rfl, e⟩
  | .node l v r, .nil, .node l2 v2 r2, x, s, e => by
    simp only [over, PT.get_node] at e ⊢
    split at e
    · rename_i hx
      rw [if_pos hx, if_pos hx]
      unfold over1 at e
      cases hv : v2 with
      | some t => rw [hv] at e; exact .inl e
      | none => rw [hv] at e; exact .inr ⟨rfl, rfl, e⟩
    · rename_i hx
      split at e
      · rename_i hx2
        rw [if_neg hx, if_pos hx2, if_neg hx, if_pos hx2]
        rcases over_get l .nil l2 _ s e with h | ⟨_, h2, h3⟩
        · exact .inl h
        · exact .inr ⟨rfl, h2, h3⟩
      · rename_i hx2
        rw [if_neg hx, if_neg hx2, if_neg hx, if_neg hx2]
        rcases over_get r .nil r2 _ s e with h | ⟨_, h2, h3⟩
        · exact .inl h
        · exact .inr ⟨rfl, h2, h3⟩
  | .node l v r, .node l1 v1 r1, .nil, x, s, e => by
    simp only [over, PT.get_node] at e ⊢
    split at e
    · rename_i hx
      rw [if_pos hx, if_pos hx]
      unfold over1 at e
      cases hv : v1 with
      | some t => rw [hv] at e; cases e
      | none => rw [hv] at e; exact .inr ⟨rfl, rfl, e⟩
    · rename_i hx
      split at e
      · rename_i hx2
        rw [if_neg hx, if_pos hx2, if_neg hx, if_pos hx2]
        rcases over_get l l1 .nil _ s e with h | ⟨h1, h2, h3⟩
        · cases h
        · exact .inr ⟨h1, rfl, h3⟩
      · rename_i hx2
        rw [if_neg hx, if_neg hx2, if_neg hx, if_neg hx2]
        rcases over_get r r1 .nil _ s e with h | ⟨h1, h2, h3⟩
        · cases h
        · exact .inr ⟨h1, rfl, h3⟩
  | .node l v r, .node l1 v1 r1, .node l2 v2 r2, x, s, e => by
    simp only [over, PT.get_node] at e ⊢
    split at e
    · rename_i hx
      simp only [if_pos hx]
      unfold over1 at e
      cases hv : v2 with
      | some t => rw [hv] at e; exact .inl e
      | none =>
        rw [hv] at e
        cases hv1 : v1 with
        | some t => rw [hv1] at e; cases e
        | none => rw [hv1] at e; exact .inr ⟨rfl, rfl, e⟩
    · rename_i hx
      split at e
      · rename_i hx2
        simp only [if_neg hx, if_pos hx2]
        exact over_get l l1 l2 _ s e
      · rename_i hx2
        simp only [if_neg hx, if_neg hx2]
        exact over_get r r1 r2 _ s e

/-- A call that was looked at: over the heap H. -/
structure Ent where
  k : FuncId
  args : List SV
  H : Heap
  nx : Nat
  r : Outs
def EntOK (P : Program) (base : Nat) (e : Ent) : Prop := CallOKM P base e.k e.args e.H e.nx e.r
def memo : List Ent → CallerM
  | [], _, _, _, _ => none
  | e :: m, k, args, H, nx => bif (bif Nat.beq e.k k then (bif Nat.beq e.nx nx then (bif allEq (eqS 20) e.args args then subH e.H H else false) else false) else false) then
      some (e.r.1.map fun o => (o.1, over H e.H o.2.1, o.2.2), e.r.2)
    else memo m k args H nx
section
variable {P : Program} {base : Nat}
theorem over_ok {k : FuncId} {args : List SV} {H E : Heap} {nx : Nat} {r : Outs} (hsub : ∀ x s, E.get x = some s → H.get x = some s) (h : CallOKM P base k args E nx r) : CallOKM P base k args H nx (r.1.map fun o => (o.1, over H E o.2.1, o.2.2), r.2) := by
  obtain ⟨h1, h2, h3⟩ := h
  refine ⟨h1, fun out ho => ?_, fun ρ vals w hd hs hf => ?_⟩
  · obtain ⟨o, ho', rfl⟩ := List.mem_map.1 ho
    obtain ⟨b1, b2, b3⟩ := h2 o ho'
    refine ⟨b1, b2, fun x s hx => ?_⟩
    rcases over_get _ _ _ x s hx with hg | ⟨g1, g2, g3⟩
    · rcases b3 x s hg with h | ⟨t, t1, t2, t3⟩
      · exact .inl h
      · exact .inr ⟨t, hsub x t t1, t2, t3⟩
    · exact .inr ⟨s, g3, rfl, fun _ => rfl⟩
  · have hsE : Sat base ρ E.get w := hs.fewer fun x s hx => ⟨s, hsub x s hx, rfl⟩
    have key : ∀ (out : Out), out ∈ r.1 → ∀ ρ' w', Ext ρ ρ' nx out.2.2 → Sat base ρ' out.2.1.get w' → Keep E.get ρ w out.2.1.get ρ' w' → Sat base ρ' (over H E out.2.1).get w' ∧ Keep H.get ρ w (over H E out.2.1).get ρ' w' := by
      intro out ho ρ' w' g1 g2 g3
      obtain ⟨b1, b2, b3⟩ := h2 out ho
      obtain ⟨f1, f2⟩ := frame hs (fun x s hx => ⟨s, hsub x s hx, rfl, fun h => h⟩) g1 g2 g3 b3 (fun n k1 k2 => hf n k1 (by omega))
      have hle : ∀ x s, (over H E out.2.1).get x = some s → (if wB E.get nx out.2.2 x = true then out.2.1.get x else H.get x) = some s := by
        intro x s hx
        rcases over_get _ _ _ x s hx with hg | ⟨k1, k2, k3⟩
        · cases hw : wB E.get nx out.2.2 x with
          | true => rw [if_pos rfl]; exact hg
          | false =>
            rw [if_neg (by simp)]
            obtain ⟨q1, q2⟩ := wB_false hw
            rcases b3 x s hg with ⟨p1, p2, _⟩ | ⟨t, t1, t2, t3⟩
            · exact absurd ⟨p1, p2⟩ q1
            · have := t3 (q2 t t1)
              subst this
              exact hsub x t t1
        · cases hw : wB E.get nx out.2.2 x with
          | false => rw [if_neg (by simp)]; exact k3
          | true =>
            rcases wB_true hw with ⟨p1, p2⟩ | ⟨t, t1, _⟩
            · obtain ⟨q, ob, q1, _⟩ := hs.held x s k3
              rw [hf x p1 (by omega)] at q1
              cases q1
            · rw [k1] at t1
              cases t1
      exact ⟨f1.fewer fun x s hx => ⟨s, hle x s hx, rfl⟩, f2.less hle⟩
    rcases h3 ρ vals w hd hsE hf with ⟨g1, g2⟩ | ⟨out, ho, ρ', v, w', g1, g2, g3, g4, g5⟩
    · refine .inl ⟨g1, g2.mono ?_⟩
      rintro e w' ⟨out, ho, ρ', v, rfl, k1, k2, k3, k4⟩
      obtain ⟨q1, q2⟩ := key out ho ρ' w' k1 k3 k4
      exact ⟨_, List.mem_map.2 ⟨out, ho, rfl⟩, ρ', v, rfl, k1, k2, q1, q2⟩
    · obtain ⟨q1, q2⟩ := key out ho ρ' w' g2 g4 g5
      exact .inr ⟨_, List.mem_map.2 ⟨out, ho, rfl⟩, ρ', v, w', g1, g2, g3, q1, q2⟩
theorem memo_ok : ∀ (M : List Ent), (∀ e ∈ M, EntOK P base e) → ∀ k args H nx r, memo M k args H nx = some r → CallOKM P base k args H nx r
  | [], hM, k, args, H, nx, r, h => by cases h
  | e :: m, hM, k, args, H, nx, r, h => by
    simp only [memo] at h
    cases hc : (bif Nat.beq e.k k then (bif Nat.beq e.nx nx then (bif allEq (eqS 20) e.args args then subH e.H H else false) else false) else false) with
    | false =>
      rw [hc] at h
      exact memo_ok m (fun x hx => hM x (by simp [hx])) k args H nx r h
    | true =>
      rw [hc] at h
      simp only [cond_true] at h
      injection h with h
      subst h
      obtain ⟨c1, c2⟩ := cond_and hc
      obtain ⟨c2, c3⟩ := cond_and c2
      obtain ⟨c3, c4⟩ := cond_and c3
      have e1 : e.k = k := Nat.eq_of_beq_eq_true c1
      have e2 : e.nx = nx := Nat.eq_of_beq_eq_true c2
      have e3 : e.args = args := allEq_iff (eqS_iff 20) c3
      have he := hM e (by simp)
      unfold EntOK at he
      rw [e1, e2, e3] at he
      exact over_ok (subH_get _ _ c4) he
/-- The evaluator with looked-up calls. -/
def evN (P : Program) (ext : Caller) (mm : CallerM) (cf : Nat) : Nat → CallerM
  | 0, _, _, _, _ => none
  | d + 1, k, args, H, nx => match mm k args H nx with
    | some r => some r
    | none => match P.funcs[k]? with
      | some fn => match fn.body with
        | some c => match evC P (evN P ext mm cf d) (max fn.ntmps args.length) cf none c (tempsOf args 0 .nil, H, nx) with
          | some (l, hi) => match backAll P fn.results.toList l with
            | some outs => some (outs, hi)
            | none => none
          | none => none
        | none => lift (ext k args H nx)
      | none => none
theorem bodyN_ok (hP : NoCount P) (hm : P.follows .mixedOrders = true) {call : CallerM} (cf : Nat) (ih : ∀ (k : FuncId) (args : List SV) (H : Heap) (nx : Nat) (r : Outs), call k args H nx = some r → CallOKM P base k args H nx r) {k : FuncId} {fn : Func} {c : Code} (hfn : P.funcs[k]? = some fn) (hc : fn.body = some c) {args : List SV} {H : Heap} {nx hi : Nat} {l : List Way} {outs : List Out}
    (he : evC P call (max fn.ntmps args.length) cf none c (tempsOf args 0 .nil, H, nx) = some (l, hi)) (hr : backAll P fn.results.toList l = some outs) : BodyOKM P base k args H nx (outs, hi) := by
  obtain ⟨a1, b1, c1⟩ := ((codeM_ok (base := base) hP hm ih cf).1 c _ _ he).1
  obtain ⟨p1, p2⟩ := backAll_spec hr
  refine ⟨a1, fun out ho => ?_, fun ρ vals w hd hs hf => calls_of_wp hfn hc ?_⟩
  · obtain ⟨x, hx, e1, e2⟩ := p2 out ho
    rw [e1, e2]
    exact b1 x hx
  · have hlen := denL_length hd
    refine c1 ρ _ w _ ⟨?_, rfl, ?_⟩ hs hf fun x hx ρ' a' w' g1 g2 g3 g4 => ?_
    · simp; omega
    · intro t s ht
      rcases tempsOf_get args 0 .nil t s ht with ⟨h1, h2⟩ | h
      · simp only [Nat.sub_zero] at h2
        obtain ⟨v, k1, k2⟩ := denL_get hd h2
        have hlt : t < vals.length := (List.getElem?_eq_some_iff.1 k1).1
        exact ⟨v, by rw [Array.getElem?_append_left (by simpa using hlt)]; simpa using k1, k2⟩
      · cases h
    · obtain ⟨hex, ss, hss, hmem⟩ := p1 x hx
      obtain ⟨v, k1, k2⟩ := results_ok (P := P) g2 g3 hss
      obtain ⟨ex, sx⟩ := x
      rcases hex with rfl | rfl
      · exact ⟨g2.defers, v, k1, _, hmem, ρ', v, rfl, g1, k2, g3, g4⟩
      · exact ⟨g2.defers, v, k1, _, hmem, ρ', v, rfl, g1, k2, g3, g4⟩
theorem evN_ok (hP : NoCount P) (hm : P.follows .mixedOrders = true) (ext : Caller) (hext : ∀ k args H nx out, ext k args H nx = some out → CallOK P base k args H nx out) (mm : CallerM) (hmm : ∀ k args H nx r, mm k args H nx = some r → CallOKM P base k args H nx r) (cf : Nat) : ∀ (d : Nat) (k : FuncId) (args : List SV) (H : Heap) (nx : Nat) (r : Outs), evN P ext mm cf d k args H nx = some r → CallOKM P base k args H nx r := by
  intro d
  induction d with
  | zero => intro k args H nx r h; cases h
  | succ d ih =>
    intro k args H nx r h
    simp only [evN] at h
    split at h
    · rename_i r' hr'
      injection h with h
      subst h
      exact hmm k args H nx _ hr'
    split at h
    case h_2 => cases h
    rename_i fn hfn
    split at h
    · rename_i c hc
      split at h
      case h_2 => cases h
      rename_i l hi he
      split at h
      case h_2 => cases h
      rename_i outs hr
      injection h with h
      subst h
      obtain ⟨a1, b1, c1⟩ := bodyN_ok hP hm cf ih hfn hc he hr
      exact ⟨a1, b1, fun ρ vals w hd hs hf => .inl ⟨run_callFunc hP (enters_of hfn hc) _ w, c1 ρ vals w hd hs hf⟩⟩
    · rename_i hc
      obtain ⟨out, h1, rfl⟩ := lift_some h
      obtain ⟨a1, b1, c1⟩ := hext k args H nx out h1
      refine ⟨a1, fun q hq => by simp at hq; subst hq; exact ⟨a1, Nat.le_refl _, b1⟩, fun ρ vals w hd hs hf => ?_⟩
      rcases c1 ρ vals w hd hs hf with ⟨g1, g2⟩ | ⟨ρ', v, w', g1, g2, g3, g4, g5⟩
      · refine .inl ⟨g1, g2.mono ?_⟩
        rintro e w' ⟨ρ', v, rfl, k⟩
        exact ⟨out, by simp, ρ', v, rfl, k⟩
      · exact .inr ⟨out, by simp, ρ', v, w', g1, g2, g3, g4, g5⟩
/-- A run bears out what an entry says: way by way, the entry's heap is a part. -/
def bears : List Out → List Out → Nat → Bool
  | [], [], _ => true
  | a :: r, b :: s, hi => bif eqS 20 a.1 b.1 then (bif Nat.ble a.2.2 b.2.2 then (bif Nat.ble b.2.2 hi then (bif subH b.2.1 a.2.1 then bears r s hi else false) else false) else false) else false
  | _, _, _ => false
theorem bears_spec : ∀ {l m : List Out} {hi : Nat}, bears l m hi = true → (∀ a ∈ l, ∃ b ∈ m, a.1 = b.1 ∧ a.2.2 ≤ b.2.2 ∧ b.2.2 ≤ hi ∧ subH b.2.1 a.2.1 = true) ∧ ∀ b ∈ m, ∃ a ∈ l, a.1 = b.1 ∧ a.2.2 ≤ b.2.2 ∧ b.2.2 ≤ hi ∧ subH b.2.1 a.2.1 = true
  | [], [], hi, h => ⟨fun a ha => (by cases ha), fun b hb => (by cases hb)⟩
  | [], _ :: _, hi, h => by cases h
  | _ :: _, [], hi, h => by cases h
  | a :: r, b :: s, hi, h => by
    simp only [bears] at h
    obtain ⟨h1, h2⟩ := cond_and h
    obtain ⟨h2, h3⟩ := cond_and h2
    obtain ⟨h3, h4⟩ := cond_and h3
    obtain ⟨h4, h5⟩ := cond_and h4
    obtain ⟨i1, i2⟩ := bears_spec h5
    have hab : a.1 = b.1 ∧ a.2.2 ≤ b.2.2 ∧ b.2.2 ≤ hi ∧ subH b.2.1 a.2.1 = true := ⟨eqS_iff _ _ _ h1, ble_true h2, ble_true h3, h4⟩
    refine ⟨fun x hx => ?_, fun x hx => ?_⟩
    · rcases List.mem_cons.1 hx with rfl | hx
      · exact ⟨b, by simp, hab⟩
      · obtain ⟨y, hy, g⟩ := i1 x hx
        exact ⟨y, by simp [hy], g⟩
    · rcases List.mem_cons.1 hx with rfl | hx
      · exact ⟨a, by simp, hab⟩
      · obtain ⟨y, hy, g⟩ := i2 x hx
        exact ⟨y, by simp [hy], g⟩
def bearsR (x : Option Outs) (r : Outs) : Bool := match x with
  | some (l, h) => bif Nat.ble h r.2 then bears l r.1 r.2 else false
  | none => false
theorem bears_ok {k : FuncId} {args : List SV} {H : Heap} {nx : Nat} {x : Option Outs} {r : Outs} (hx : ∀ q, x = some q → CallOKM P base k args H nx q) (h : bearsR x r = true) : CallOKM P base k args H nx r := by
  unfold bearsR at h
  split at h
  case h_2 => cases h
  rename_i l hh
  obtain ⟨g1, g2⟩ := cond_and h
  have hle := ble_true g1
  obtain ⟨i1, i2⟩ := bears_spec g2
  obtain ⟨a1, b1, c1⟩ := hx _ rfl
  simp only at a1 b1 c1
  refine ⟨Nat.le_trans a1 hle, fun b hb => ?_, fun ρ vals w hd hs hf => ?_⟩
  · obtain ⟨a, ha, _, e2, e3, e4⟩ := i2 b hb
    obtain ⟨q1, q2, q3⟩ := b1 a ha
    exact ⟨Nat.le_trans q1 e2, e3, fun y s hy => (q3.wider e2) y s (subH_get _ _ e4 y s hy)⟩
  · have key : ∀ a ∈ l, ∀ ρ' v w', Ext ρ ρ' nx a.2.2 → den ρ' a.1 = some v → Sat base ρ' a.2.1.get w' → Keep H.get ρ w a.2.1.get ρ' w' → ∃ b ∈ r.1, Ext ρ ρ' nx b.2.2 ∧ den ρ' b.1 = some v ∧ Sat base ρ' b.2.1.get w' ∧ Keep H.get ρ w b.2.1.get ρ' w' := by
      intro a ha ρ' v w' k1 k2 k3 k4
      obtain ⟨b, hb, e1, e2, e3, e4⟩ := i1 a ha
      have hsub := subH_get _ _ e4
      exact ⟨b, hb, k1.wider e2, e1 ▸ k2, k3.fewer fun x s hx => ⟨s, hsub x s hx, rfl⟩, k4.less hsub⟩
    rcases c1 ρ vals w hd hs (fun n h1 h2 => hf n h1 (by omega)) with ⟨q1, q2⟩ | ⟨a, ha, ρ', v, w', q1, q2, q3, q4, q5⟩
    · refine .inl ⟨q1, q2.mono ?_⟩
      rintro e w' ⟨a, ha, ρ', v, rfl, k1, k2, k3, k4⟩
      obtain ⟨b, hb, p1, p2, p3, p4⟩ := key a ha ρ' v w' k1 k2 k3 k4
      exact ⟨b, hb, ρ', v, rfl, p1, p2, p3, p4⟩
    · obtain ⟨b, hb, p1, p2, p3, p4⟩ := key a ha ρ' v w' q2 q3 q4 q5
      exact .inr ⟨b, hb, ρ', v, w', q1, p1, p2, p3, p4⟩
/-- An entry, by one run that may look up the entries before it. -/
theorem ent_ok (hP : NoCount P) (hm : P.follows .mixedOrders = true) {ext : Caller} (hext : ∀ base k args H nx out, ext k args H nx = some out → CallOK P base k args H nx out) (M : List Ent) (hM : ∀ base, ∀ e ∈ M, EntOK P base e) (cf d : Nat) (e : Ent) (h : bearsR (evN P ext (memo M) cf d e.k e.args e.H e.nx) e.r = true) : ∀ base, ∀ x ∈ e :: M, EntOK P base x := by
  intro base x hx
  rcases List.mem_cons.1 hx with rfl | hx
  · exact bears_ok (fun q hq => evN_ok hP hm ext (hext base) (memo M) (memo_ok M (hM base)) cf d _ _ _ _ _ hq) h
  · exact hM base x hx
end
end Ev
end Go.Proofs.YtekhboekiehdhaaGreatDoor
