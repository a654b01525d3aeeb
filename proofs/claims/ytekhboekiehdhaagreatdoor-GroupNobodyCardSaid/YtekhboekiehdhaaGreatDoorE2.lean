/- More operations over names: those that leave the world alone. -/
import Derived.Test.YtekhboekiehdhaaGreatDoorE1
import Derived.Laws.Build
import Derived.Laws.Slices
set_option linter.unusedVariables false
set_option linter.unusedSimpArgs false
namespace Go.Proofs.YtekhboekiehdhaaGreatDoor
namespace Ev
open Go.RowKit

section
variable {P : Program} {base : Nat} {o : Oper} {σ : Sig} {H : Heap} {nx : Nat} {out : Out}

theorem ok_move {x : Operand} {s : SV} (ho : o.op = .move x ∨ o.op = .assign x) (hx : σ x = some s) : OpOK P base o σ H nx (s, H, nx) :=
  ok_still fun ρ a w hσ hs => ⟨a.eval x, by rcases ho with ho | ho <;> simp [execOp, ho], hσ x (by rcases ho with ho | ho <;> simp [ho, Op.operands]) s hx⟩

def evPick (c : SV) (x y : Option SV) : Option SV :=
  match c with
  | .lit (.bool true) => x
  | .lit (.bool false) => y
  | _ => none
theorem ok_pick {c x y : Operand} {cs s : SV} (ho : o.op = .pick c x y) (hc : σ c = some cs) (h : evPick cs (σ x) (σ y) = some s) : OpOK P base o σ H nx (s, H, nx) := by
  refine ok_still fun ρ a w hσ hs => ?_
  have hd := hσ c (by simp [ho, Op.operands]) _ hc
  unfold evPick at h
  split at h
  · simp [den] at hd
    exact ⟨a.eval x, by simp [execOp, ho, ← hd, asBool], hσ x (by simp [ho, Op.operands]) s h⟩
  · simp [den] at hd
    exact ⟨a.eval y, by simp [execOp, ho, ← hd, asBool], hσ y (by simp [ho, Op.operands]) s h⟩
  · cases h

/-- An operation on values without names. -/
theorem ok_plain {s : SV} {f : (Operand → Value) → Sem Value} {xs : List Operand} (ho : ∀ ρ, execOp ρ o = (f ρ >>= fun v => pure (.value v))) (hxs : ∀ x ∈ xs, x ∈ o.op.operands)
    (hf : ∀ ρ ρ', (∀ x ∈ xs, ρ x = ρ' x) → f ρ = f ρ') (vals : Operand → Value) (hv : ∀ x ∈ xs, (σ x).bind plain = some (vals x)) (v : Value) (hp : pr P (f vals) = some v) : OpOK P base o σ H nx (ofV v, H, nx) := by
  refine ok_still fun ρ a w hσ hs => ⟨v, ?_, den_ofV ρ v⟩
  have he : f a.eval = f vals := by
    refine hf _ _ fun x hx => ?_
    have := hv x hx
    cases hs : σ x with
    | none => simp [hs] at this
    | some s' =>
      simp [hs] at this
      have h1 := hσ x (hxs x hx) s' hs
      have h2 := plain_den this ρ
      rw [h1] at h2
      injection h2
  rw [ho, he]
  simp [pr_run hp w]

/-- Two values, one of them nil. -/
def nilSide : SV → Value → Option Bool   -- some true: s is nil of this kind
  | .ptr _ _, .pointer none => some false
  | .sl _ _ _ _ _, .slice none _ _ => some false
  | .ifc _ _, .nilIface => some false
  | .fn _ _ _, .nilFunc => some false
  | .mp _, .map none => some false
  | _, _ => none
def nilKind (P : Program) (t : TypeId) (v : Value) : Bool :=
  match P.underlying t, v with
  | some (.pointer _), .pointer none => true
  | some (.slice _), .slice none _ _ => true
  | some (.interface _), .nilIface => true
  | some (.func _ _ _), .nilFunc => true
  | some (.map _ _), .map none => true
  | _, _ => false
theorem equal_nil_right {t : TypeId} {s : SV} {v u : Value} {ρ : Env} (hk : nilKind P t v = true) (hn : nilSide s v = some false) (hd : den ρ s = some u) (w : World) : (Op.equal t u v).run P w = .ok false w := by
  show (Op.equalIn (9999 + 1) t u v).run P w = _
  generalize 9999 = d
  unfold nilKind at hk
  split at hk
  · rename_i hu
    cases s <;> simp [nilSide] at hn
    rename_i n off
    cases hr : ρ n with
    | none => simp [den, hr] at hd
    | some p => simp [den, hr] at hd; subst hd; simp [Op.equalIn, run_underlying hu]
  · rename_i hu
    cases s <;> simp [nilSide] at hn
    rename_i n off len cap k
    cases hr : ρ n with
    | none => simp [den, hr] at hd
    | some p =>
      simp only [den, hr, Option.bind_some] at hd
      split at hd
      · injection hd with hd; subst hd; simp [Op.equalIn, run_underlying hu]
      · split at hd
        · injection hd with hd; subst hd; simp [Op.equalIn, run_underlying hu]
        · cases hd
  · rename_i hu
    cases s <;> simp [nilSide] at hn
    rename_i t' s'
    cases hr : den ρ s' with
    | none => simp [den, hr] at hd
    | some p => simp [den, hr] at hd; subst hd; simp [Op.equalIn, run_underlying hu]
  · rename_i hu
    cases s <;> simp [nilSide] at hn
    rename_i f x y
    cases hx : denL ρ x with
    | none => simp [den, hx] at hd
    | some xs =>
      cases hy : denL ρ y with
      | none => simp [den, hx, hy] at hd
      | some ys => simp [den, hx, hy] at hd; subst hd; simp [Op.equalIn, run_underlying hu]
  · rename_i hu
    cases s <;> simp [nilSide] at hn
    rename_i n
    cases hr : ρ n with
    | none => simp [den, hr] at hd
    | some p => simp [den, hr] at hd; subst hd; simp [Op.equalIn, run_underlying hu]
  · cases hk
theorem equal_nil_left {t : TypeId} {s : SV} {v u : Value} {ρ : Env} (hk : nilKind P t v = true) (hn : nilSide s v = some false) (hd : den ρ s = some u) (w : World) : (Op.equal t v u).run P w = .ok false w := by
  show (Op.equalIn (9999 + 1) t v u).run P w = _
  generalize 9999 = d
  unfold nilKind at hk
  split at hk
  · rename_i hu
    cases s <;> simp [nilSide] at hn
    rename_i n off
    cases hr : ρ n with
    | none => simp [den, hr] at hd
    | some p => simp [den, hr] at hd; subst hd; simp [Op.equalIn, run_underlying hu]
  · rename_i hu
    cases s <;> simp [nilSide] at hn
    rename_i n off len cap k
    cases hr : ρ n with
    | none => simp [den, hr] at hd
    | some p =>
      simp only [den, hr, Option.bind_some] at hd
      split at hd
      · injection hd with hd; subst hd; simp [Op.equalIn, run_underlying hu]
      · split at hd
        · injection hd with hd; subst hd; simp [Op.equalIn, run_underlying hu]
        · cases hd
  · rename_i hu
    cases s <;> simp [nilSide] at hn
    rename_i t' s'
    cases hr : den ρ s' with
    | none => simp [den, hr] at hd
    | some p => simp [den, hr] at hd; subst hd; simp [Op.equalIn, run_underlying hu]
  · rename_i hu
    cases s <;> simp [nilSide] at hn
    rename_i f x y
    cases hx : denL ρ x with
    | none => simp [den, hx] at hd
    | some xs =>
      cases hy : denL ρ y with
      | none => simp [den, hx, hy] at hd
      | some ys => simp [den, hx, hy] at hd; subst hd; simp [Op.equalIn, run_underlying hu]
  · rename_i hu
    cases s <;> simp [nilSide] at hn
    rename_i n
    cases hr : ρ n with
    | none => simp [den, hr] at hd
    | some p => simp [den, hr] at hd; subst hd; simp [Op.equalIn, run_underlying hu]
  · cases hk
end
end Ev
end Go.Proofs.YtekhboekiehdhaaGreatDoor
