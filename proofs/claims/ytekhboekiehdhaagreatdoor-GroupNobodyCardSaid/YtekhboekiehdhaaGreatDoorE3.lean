/- More operations over names: comparisons, fields, elements, interfaces, functions. -/
import Derived.Test.YtekhboekiehdhaaGreatDoorE2
set_option linter.unusedVariables false
set_option linter.unusedSimpArgs false
namespace Go.Proofs.YtekhboekiehdhaaGreatDoor
namespace Ev
open Go.RowKit

section
variable {P : Program} {base : Nat} {o : Oper} {σ : Sig} {H : Heap} {nx : Nat} {out : Out}

theorem nilSide_inv {s : SV} {v : Value} (h : nilSide s v = some false) : (∃ n off, s = .ptr n off ∧ v = .pointer none) ∨ (∃ n o l c k l' c', s = .sl n o l c k ∧ v = .slice none l' c') ∨ (∃ t q, s = .ifc t q ∧ v = .nilIface) ∨
    (∃ f a b, s = .fn f a b ∧ v = .nilFunc) ∨ (∃ n, s = .mp n ∧ v = .map none) := by
  unfold nilSide at h
  split at h
  · exact .inl ⟨_, _, rfl, rfl⟩
  · exact .inr (.inl ⟨_, _, _, _, _, _, _, rfl, rfl⟩)
  · exact .inr (.inr (.inl ⟨_, _, rfl, rfl⟩))
  · exact .inr (.inr (.inr (.inl ⟨_, _, _, rfl, rfl⟩)))
  · exact .inr (.inr (.inr (.inr ⟨_, rfl, rfl⟩)))
  · cases h
theorem bin_nil_right {t : TypeId} {s : SV} {v u : Value} {ρ : Env} {x y : Operand} (hk : nilKind P t v = true) (hn : nilSide s v = some false) (hd : den ρ s = some u) (w : World) :
    (do eqGuard .eql t x y u v; binOp .eql t u v : Sem Value).run P w = .ok (.bool false) w ∧ (do eqGuard .neq t x y u v; binOp .neq t u v : Sem Value).run P w = .ok (.bool true) w := by
  have he := equal_nil_right hk hn hd w
  rcases nilSide_inv hn with ⟨n, off, rfl, rfl⟩ | ⟨n, off, l, c, k, l', c', rfl, rfl⟩ | ⟨t', s', rfl, rfl⟩ | ⟨f, a, b, rfl, rfl⟩ | ⟨n, rfl, rfl⟩
  · cases hr : ρ n with
    | none => simp [den, hr] at hd
    | some p => simp [den, hr] at hd; subst hd; constructor <;> simp [eqGuard, binOp, he]
  · cases hr : ρ n with
    | none => simp [den, hr] at hd
    | some p =>
      simp only [den, hr, Option.bind_some] at hd
      split at hd
      · injection hd with hd; subst hd; constructor <;> simp [eqGuard, binOp, he]
      · split at hd
        · injection hd with hd; subst hd; constructor <;> simp [eqGuard, binOp, he]
        · cases hd
  · cases hr : den ρ s' with
    | none => simp [den, hr] at hd
    | some p => simp [den, hr] at hd; subst hd; constructor <;> simp [eqGuard, binOp, he]
  · cases hx : denL ρ a with
    | none => simp [den, hx] at hd
    | some xs =>
      cases hy : denL ρ b with
      | none => simp [den, hx, hy] at hd
      | some ys => simp [den, hx, hy] at hd; subst hd; constructor <;> simp [eqGuard, binOp, he]
  · cases hr : ρ n with
    | none => simp [den, hr] at hd
    | some p => simp [den, hr] at hd; subst hd; constructor <;> simp [eqGuard, binOp, he]
theorem bin_nil_left {t : TypeId} {s : SV} {v u : Value} {ρ : Env} {x y : Operand} (hk : nilKind P t v = true) (hn : nilSide s v = some false) (hd : den ρ s = some u) (w : World) :
    (do eqGuard .eql t x y v u; binOp .eql t v u : Sem Value).run P w = .ok (.bool false) w ∧ (do eqGuard .neq t x y v u; binOp .neq t v u : Sem Value).run P w = .ok (.bool true) w := by
  have he := equal_nil_left hk hn hd w
  rcases nilSide_inv hn with ⟨n, off, rfl, rfl⟩ | ⟨n, off, l, c, k, l', c', rfl, rfl⟩ | ⟨t', s', rfl, rfl⟩ | ⟨f, a, b, rfl, rfl⟩ | ⟨n, rfl, rfl⟩
  · cases hr : ρ n with
    | none => simp [den, hr] at hd
    | some p => simp [den, hr] at hd; subst hd; constructor <;> simp [eqGuard, binOp, he]
  · cases hr : ρ n with
    | none => simp [den, hr] at hd
    | some p =>
      simp only [den, hr, Option.bind_some] at hd
      split at hd
      · injection hd with hd; subst hd; constructor <;> simp [eqGuard, binOp, he]
      · split at hd
        · injection hd with hd; subst hd; constructor <;> simp [eqGuard, binOp, he]
        · cases hd
  · cases hr : den ρ s' with
    | none => simp [den, hr] at hd
    | some p => simp [den, hr] at hd; subst hd; constructor <;> simp [eqGuard, binOp, he]
  · cases hx : denL ρ a with
    | none => simp [den, hx] at hd
    | some xs =>
      cases hy : denL ρ b with
      | none => simp [den, hx, hy] at hd
      | some ys => simp [den, hx, hy] at hd; subst hd; constructor <;> simp [eqGuard, binOp, he]
  · cases hr : ρ n with
    | none => simp [den, hr] at hd
    | some p => simp [den, hr] at hd; subst hd; constructor <;> simp [eqGuard, binOp, he]
def evNil (P : Program) (op : BinOp) (t : TypeId) (s : SV) (v : Value) : Option SV :=
  match nilKind P t v, nilSide s v, op with
  | true, some false, .eql => some (.lit (.bool false))
  | true, some false, .neq => some (.lit (.bool true))
  | _, _, _ => none
def evSame (P : Program) (op : BinOp) (t : TypeId) (s r : SV) : Option SV :=
  match s, r, P.underlying t with
  | .ptr n i, .ptr m j, some (.pointer e) => match szOf P e with
    | some k => bif Nat.beq n m && !Nat.beq k 0 then
        match op with
        | .eql => some (.lit (.bool (i == j)))
        | .neq => some (.lit (.bool (!(i == j))))
        | _ => none
      else none
    | none => none
  | _, _, _ => none
def evBin (P : Program) (op : BinOp) (t : TypeId) (x y : Operand) (s r : SV) : Option SV :=
  match plain s, plain r with
  | some a, some b => (pr P (do eqGuard op t x y a b; binOp op t a b)).map ofV
  | none, some v => evNil P op t s v
  | some v, none => evNil P op t r v
  | none, none => evSame P op t s r
theorem ok_bin {op : BinOp} {t u : TypeId} {x y : Operand} {s r q : SV} (ho : o.op = .binOp op t x y u) (hx : σ x = some s) (hy : σ y = some r) (h : evBin P op t x y s r = some q) : OpOK P base o σ H nx (q, H, nx) := by
  refine ok_still fun ρ a w hσ hs => ?_
  have hdx := hσ x (by simp [ho, Op.operands]) s hx
  have hdy := hσ y (by simp [ho, Op.operands]) r hy
  have hex : execOp a.eval o = ((do eqGuard op t x y (a.eval x) (a.eval y); binOp op t (a.eval x) (a.eval y) : Sem Value) >>= fun v => pure (.value v)) := by simp [execOp, ho]
  unfold evBin at h
  split at h
  · rename_i va vb hva hvb
    have h1 := plain_den hva ρ
    have h2 := plain_den hvb ρ
    rw [hdx] at h1
    rw [hdy] at h2
    injection h1 with h1
    injection h2 with h2
    cases hp : pr P (do eqGuard op t x y va vb; binOp op t va vb) with
    | none => simp [hp] at h
    | some v =>
      simp [hp] at h
      subst h
      refine ⟨v, ?_, den_ofV ρ v⟩
      rw [hex, h1, h2, Sem.run_bind, pr_run hp w]
      rfl
  · rename_i v hva hvb
    have h2 := plain_den hvb ρ
    rw [hdy] at h2
    injection h2 with h2
    unfold evNil at h
    split at h
    · rename_i hk hn
      injection h with h
      subst h
      refine ⟨.bool false, ?_, rfl⟩
      rw [hex, h2, Sem.run_bind, (bin_nil_right hk hn hdx w).1]
      rfl
    · rename_i hk hn
      injection h with h
      subst h
      refine ⟨.bool true, ?_, rfl⟩
      rw [hex, h2, Sem.run_bind, (bin_nil_right hk hn hdx w).2]
      rfl
    · cases h
  · rename_i v hva hvb
    have h2 := plain_den hva ρ
    rw [hdx] at h2
    injection h2 with h2
    unfold evNil at h
    split at h
    · rename_i hk hn
      injection h with h
      subst h
      refine ⟨.bool false, ?_, rfl⟩
      rw [hex, h2, Sem.run_bind, (bin_nil_left hk hn hdy w).1]
      rfl
    · rename_i hk hn
      injection h with h
      subst h
      refine ⟨.bool true, ?_, rfl⟩
      rw [hex, h2, Sem.run_bind, (bin_nil_left hk hn hdy w).2]
      rfl
    · cases h
  · unfold evSame at h
    split at h
    · rename_i n i m j e hu hp1 hp2
      split at h
      · rename_i k hk
        cases hc : (Nat.beq n m && !Nat.beq k 0) with
        | false => simp [hc] at h
        | true =>
          simp only [hc, cond_true] at h
          simp only [Bool.and_eq_true, Bool.not_eq_true'] at hc
          have hnm : n = m := Nat.eq_of_beq_eq_true hc.1
          have hk0 : k ≠ 0 := fun e => by rw [e] at hc; simp at hc
          rw [← hnm] at hdy
          cases hr : ρ n with
          | none => simp [den, hr] at hdx
          | some p =>
            simp [den, hr] at hdx hdy
            have heq : (Op.equal t (.pointer (some ⟨p.1, i, none⟩)) (.pointer (some ⟨p.1, j, none⟩))).run P w = .ok (i == j) w := by
              show (Op.equalIn (9999 + 1) _ _ _).run P w = _
              generalize 9999 = d
              simp [Op.equalIn, run_underlying hu, run_size hk, hk0, sameAddr]
              rw [Bool.eq_iff_iff, beq_iff_eq, beq_iff_eq]
              exact ⟨fun e => by injection e, fun e => by rw [e]⟩
            split at h
            · injection h with h
              subst h
              refine ⟨.bool (i == j), ?_, rfl⟩
              rw [hex, ← hdx, ← hdy]
              simp [eqGuard, binOp, heq]
            · injection h with h
              subst h
              refine ⟨.bool (!(i == j)), ?_, rfl⟩
              rw [hex, ← hdx, ← hdy]
              simp [eqGuard, binOp, heq]
            · cases h
      · cases h
    · cases h

/-- One operand without names. -/
def evPlain1 (P : Program) (f : Value → Sem Value) (s : SV) : Option SV :=
  match plain s with
  | some a => (pr P (f a)).map ofV
  | none => none
theorem ok_plain1 {f : Value → Sem Value} {x : Operand} {s q : SV} (ho : ∀ ρ, execOp ρ o = (f (ρ x) >>= fun v => pure (.value v))) (hm : x ∈ o.op.operands) (hx : σ x = some s) (h : evPlain1 P f s = some q) : OpOK P base o σ H nx (q, H, nx) := by
  refine ok_still fun ρ a w hσ hs => ?_
  have hd := hσ x hm s hx
  unfold evPlain1 at h
  split at h
  · rename_i va hva
    have h1 := plain_den hva ρ
    rw [hd] at h1
    injection h1 with h1
    cases hp : pr P (f va) with
    | none => simp [hp] at h
    | some v =>
      simp [hp] at h
      subst h
      refine ⟨v, ?_, den_ofV ρ v⟩
      rw [ho, h1, Sem.run_bind, pr_run hp w]
      rfl
  · cases h
theorem ok_un {op : UnOp} {t : TypeId} {x : Operand} {s q : SV} (ho : o.op = .unOp op t x) (hx : σ x = some s) (h : evPlain1 P (Op.unary op) s = some q) : OpOK P base o σ H nx (q, H, nx) :=
  ok_plain1 (f := Op.unary op) (x := x) (fun ρ => by simp [execOp, ho]) (by simp [ho, Op.operands]) hx h
theorem ok_convert {t u : TypeId} {x : Operand} {s q : SV} (ho : o.op = .convert t u x) (hx : σ x = some s) (h : evPlain1 P (convert t u) s = some q) : OpOK P base o σ H nx (q, H, nx) :=
  ok_plain1 (f := convert t u) (x := x) (fun ρ => by simp [execOp, ho]) (by simp [ho, Op.operands]) hx h

/-- makeInterface -/
def concreteB (P : Program) (t : TypeId) : Bool :=
  match P.underlying t with
  | some (.interface _) => false
  | none => false
  | some _ => true
theorem ok_iface {t : TypeId} {x : Operand} {s : SV} (ho : o.op = .makeInterface t x) (hx : σ x = some s) (h : concreteB P t = true) : OpOK P base o σ H nx (.ifc t s, H, nx) := by
  refine ok_still fun ρ a w hσ hs => ⟨.iface t (a.eval x), ?_, ?_⟩
  · unfold concreteB at h
    split at h
    · cases h
    · cases h
    · rename_i d hu hd
      have : (Instr.makeInterface t (a.eval x)).run P w = .ok (.iface t (a.eval x)) w := by
        simp only [Instr.makeInterface, Sem.run_bind, run_underlying hd, Result.andThen_ok]
        rfl
      simp [execOp, ho, this]
  · simp [den, hσ x (by simp [ho, Op.operands]) s hx]

/-- makeFunc -/
def sigL (σ : Sig) : List Operand → Option (List SV)
  | [] => some []
  | x :: r => (σ x).bind fun s => (sigL σ r).map (s :: ·)
theorem sigL_den {ρ : Env} {a : Act} : ∀ {l : List Operand} {ss : List SV}, sigL σ l = some ss → (∀ x ∈ l, ∀ s, σ x = some s → den ρ s = some (a.eval x)) → denL ρ ss = some (l.map a.eval)
  | [], ss, h, _ => by simp [sigL] at h; subst h; rfl
  | x :: r, ss, h, k => by
    cases hx : σ x with
    | none => simp [sigL, hx] at h
    | some s =>
      cases hr : sigL σ r with
      | none => simp [sigL, hx, hr] at h
      | some rs =>
        simp [sigL, hx, hr] at h
        subst h
        exact denL_cons.2 ⟨_, _, k x (by simp) s hx, sigL_den hr (fun y hy => k y (by simp [hy])), rfl⟩
theorem ok_func {f : Fn} {xs ys : Array Operand} {ss rs : List SV} (ho : o.op = .makeFunc f xs ys) (hx : sigL σ xs.toList = some ss) (hy : sigL σ ys.toList = some rs) : OpOK P base o σ H nx (.fn f ss rs, H, nx) := by
  refine ok_still fun ρ a w hσ hs => ⟨.func f (xs.map a.eval) (ys.map a.eval), by simp [execOp, ho, Instr.makeFunc], ?_⟩
  have h1 := sigL_den hx (ρ := ρ) (a := a) (fun x hx' => hσ x (by simp at hx'; simp [ho, Op.operands, hx']))
  have h2 := sigL_den hy (ρ := ρ) (a := a) (fun x hx' => hσ x (by simp at hx'; simp [ho, Op.operands, hx']))
  simp only [den, h1, h2, Option.bind_some, Option.map_some]
  simp [← Array.toList_map]

def fieldOf (P : Program) (t : TypeId) (i : Nat) : Option Field :=
  match P.underlying t with
  | some (.struct fields) => fields[i]?
  | _ => none
/-- A method of what an interface value holds can be called: no nil pointer is in the way. -/
def aheadOK (P : Program) (t : TypeId) (s : SV) (name : String) : Bool :=
  match P.info? t with
  | some i => match i.methods.toList.find? (·.name == name) with
    | some m => match m.path.toList, m.func with
      | [], some (_, true) => true
      | [st], some (_, true) => match s with
        | .ptr _ _ => st.deref && (fieldOf P st.struct st.index).isSome
        | _ => false
      | _, _ => false
    | none => false
  | none => false
theorem run_ahead {t : TypeId} {s : SV} {name : String} {ρ : Env} {v : Value} (h : aheadOK P t s name = true) (hd : den ρ s = some v) (d : Nat) (w : World) : (nilAhead (d + 1) t v name).run P w = .ok (some false) w := by
  unfold aheadOK at h
  split at h
  case h_2 => cases h
  rename_i i hi
  split at h
  case h_2 => cases h
  rename_i m hm
  have hm' : i.methods.find? (·.name == name) = some m := by rw [← Array.find?_toList]; exact hm
  split at h
  · rename_i f hp hf
    simp [nilAhead, typeInfo, hi, hm', hp, followBlind, hf]
  · rename_i st f hp hf
    split at h
    · rename_i n off
      simp only [Bool.and_eq_true] at h
      obtain ⟨h1, h2⟩ := h
      obtain ⟨fd, hfd⟩ := Option.isSome_iff_exists.1 h2
      unfold fieldOf at hfd
      split at hfd
      · rename_i fields hfs
        cases hr : ρ n with
        | none => simp [den, hr] at hd
        | some p =>
          simp [den, hr] at hd
          simp [nilAhead, typeInfo, hi, hm', hp, followBlind, hf, run_underlying hfs, hfd, h1, ← hd]
      · cases hfd
    · cases h
  · cases h
/-- nilCheck -/
def notNil (P : Program) : SV → Bool
  | .ptr _ _ => true
  | .ifc _ _ => true
  | .fn (.func _) _ _ => true
  | .fn (.method name) [.ifc t s] _ => aheadOK P t s name
  | .lit (.func (.func _) _ _) => true
  | .lit (.iface _ _) => true
  | _ => false
theorem ok_nilCheck {x : Operand} {s : SV} (ho : o.op = .nilCheck x) (hx : σ x = some s) (h : notNil P s = true) : OpOK P base o σ H nx (s, H, nx) := by
  refine ok_still fun ρ a w hσ hs => ⟨a.eval x, ?_, hσ x (by simp [ho, Op.operands]) s hx⟩
  have hd := hσ x (by simp [ho, Op.operands]) s hx
  unfold notNil at h
  split at h
  · rename_i n off
    cases hr : ρ n with
    | none => simp [den, hr] at hd
    | some p => simp [den, hr] at hd; simp [execOp, ho, ← hd]
  · rename_i t s'
    cases hr : den ρ s' with
    | none => simp [den, hr] at hd
    | some p => simp [den, hr] at hd; simp [execOp, ho, ← hd]
  · rename_i f x y
    cases hxx : denL ρ x with
    | none => simp [den, hxx] at hd
    | some xs =>
      cases hyy : denL ρ y with
      | none => simp [den, hxx, hyy] at hd
      | some ys => simp [den, hxx, hyy] at hd; simp [execOp, ho, ← hd]
  · rename_i name t q y
    cases hq : den ρ q with
    | none => simp [den, denL, hq] at hd
    | some v =>
      cases hyy : denL ρ y with
      | none => simp [den, denL, hq, hyy] at hd
      | some ys =>
        simp [den, denL, hq, hyy] at hd
        have hfuel : P.types.size + Made.depth = (P.types.size + 99) + 1 := rfl
        have hrun := run_ahead (P := P) h hq (P.types.size + 99) w
        simp [execOp, ho, ← hd, hfuel, hrun]
  · simp [den] at hd; simp [execOp, ho, ← hd]
  · simp [den] at hd; simp [execOp, ho, ← hd]
  · cases h

/-- extract -/
def evExtract (P : Program) (s : SV) (i : Nat) : Option SV :=
  match s with
  | .tup l => l[i]?
  | .lit (.tuple vs) => vs[i]?.map ofV
  | _ => none
theorem ok_extract {x : Operand} {i : Nat} {s q : SV} (ho : o.op = .extract x i) (hx : σ x = some s) (h : evExtract P s i = some q) : OpOK P base o σ H nx (q, H, nx) := by
  refine ok_still fun ρ a w hσ hs => ?_
  have hd := hσ x (by simp [ho, Op.operands]) s hx
  unfold evExtract at h
  split at h
  · rename_i l
    cases hl : denL ρ l with
    | none => simp [den, hl] at hd
    | some vs =>
      simp [den, hl] at hd
      obtain ⟨v, hv, hdv⟩ := denL_get hl h
      exact ⟨v, by simp [execOp, ho, ← hd, Instr.extract, hv], hdv⟩
  · rename_i vs
    simp [den] at hd
    cases hi : vs[i]? with
    | none => simp [hi] at h
    | some v =>
      simp [hi] at h
      subst h
      exact ⟨v, by simp [execOp, ho, ← hd, Instr.extract, hi], den_ofV ρ v⟩
  · cases h

/-- fieldAddr -/
def evFieldAddr (P : Program) (t : TypeId) (s : SV) (i : Nat) : Option SV :=
  match s, fieldOf P t i with
  | .ptr n off, some f => match szOf P f.type with
    | some k => bif Nat.beq k 0 then none else some (.ptr n (off + f.offset))
    | none => none
  | _, _ => none
theorem run_fieldPlace {f : Field} {k b off : Nat} (hk : szOf P f.type = some k) (h0 : k ≠ 0) (w : World) : (fieldPlace ⟨b, off, none⟩ f).run P w = .ok ⟨b, off + f.offset, none⟩ w := by
  simp [fieldPlace, run_size hk, h0, Addr.add_lit]
theorem ok_fieldAddr {t : TypeId} {x : Operand} {i : Nat} {s q : SV} (ho : o.op = .fieldAddr t x i) (hx : σ x = some s) (h : evFieldAddr P t s i = some q) : OpOK P base o σ H nx (q, H, nx) := by
  refine ok_still fun ρ a w hσ hs => ?_
  have hd := hσ x (by simp [ho, Op.operands]) s hx
  unfold evFieldAddr at h
  split at h
  · rename_i n off f hf
    split at h
    · rename_i k hk
      cases hb : Nat.beq k 0 with
      | true => simp [hb] at h
      | false =>
        simp only [hb, cond_false] at h
        injection h with h
        subst h
        have h0 : k ≠ 0 := fun e => by rw [e] at hb; simp at hb
        unfold fieldOf at hf
        split at hf
        · rename_i fields hu
          cases hr : ρ n with
          | none => simp [den, hr] at hd
          | some p =>
            simp [den, hr] at hd
            refine ⟨.pointer (some ⟨p.1, off + f.offset, none⟩), ?_, by simp [den, hr]⟩
            simp [execOp, ho, Instr.fieldAt, run_underlying hu, hf, ← hd, Instr.sureAddr, run_fieldPlace hk h0]
        · cases hf
    · cases h
  · cases h

/-- A part of a struct's cells. -/
def partS (P : Program) (t : TypeId) (cs : List SV) (off : Nat) : Option SV :=
  match aggB P t with
  | some true => match szOf P t with
    | some n => bif Nat.ble (off + n) cs.length then some (.agg ((cs.drop off).take n)) else none
    | none => none
  | some false => cs[off]?
  | none => none
theorem run_part {t : TypeId} {cs : List SV} {off : Nat} {r : SV} {ρ : Env} {vs : List Value} (h : partS P t cs off = some r) (hd : denL ρ cs = some vs) (w : World) : ∃ v, (part t vs.toArray off).run P w = .ok v w ∧ den ρ r = some v := by
  unfold partS at h
  have hlen := denL_length hd
  split at h
  · rename_i ha
    split at h
    · rename_i n hn
      cases hb : Nat.ble (off + n) cs.length with
      | false => simp [hb] at h
      | true =>
        simp only [hb, cond_true] at h
        injection h with h
        subst h
        have hd2 := denL_take n (denL_drop off hd)
        refine ⟨.agg (vs.toArray.extract off (off + n)), by simp [part, run_agg ha, run_size hn], ?_⟩
        simp only [den, hd2, Option.map_some]
        congr 2
        apply Array.ext'
        simp [Array.toList_extract, List.extract]
    · cases h
  · rename_i ha
    obtain ⟨v, hv, hdv⟩ := denL_get hd h
    exact ⟨v, by simp [part, run_agg ha, hv], hdv⟩
  · cases h
def SV.aggL : SV → Option (List SV)
  | .agg l => some l
  | .lit (.agg vs) => some (vs.toList.map .lit)
  | _ => none
theorem aggL_den {s : SV} {l : List SV} {ρ : Env} {v : Value} (h : s.aggL = some l) (hd : den ρ s = some v) : ∃ vs, denL ρ l = some vs ∧ v = .agg vs.toArray := by
  unfold SV.aggL at h
  split at h
  · injection h with h
    subst h
    rename_i l
    cases hl : denL ρ l with
    | none => simp [den, hl] at hd
    | some vs => simp [den, hl] at hd; exact ⟨vs, rfl, hd.symm⟩
  · injection h with h
    subst h
    rename_i vs
    simp [den] at hd
    exact ⟨vs.toList, denL_lits _, by simp [← hd]⟩
  · cases h
/-- field -/
def evField (P : Program) (t : TypeId) (s : SV) (i : Nat) : Option SV :=
  match s.aggL, fieldOf P t i with
  | some l, some f => partS P f.type l f.offset
  | _, _ => none
theorem ok_field {t : TypeId} {x : Operand} {i : Nat} {s q : SV} (ho : o.op = .field t x i) (hx : σ x = some s) (h : evField P t s i = some q) : OpOK P base o σ H nx (q, H, nx) := by
  refine ok_still fun ρ a w hσ hs => ?_
  have hd := hσ x (by simp [ho, Op.operands]) s hx
  unfold evField at h
  split at h
  · rename_i l f hl hf
    obtain ⟨vs, h1, h2⟩ := aggL_den hl hd
    obtain ⟨v, hv, hdv⟩ := run_part h h1 w
    unfold fieldOf at hf
    split at hf
    · rename_i fields hu
      exact ⟨v, by simp [execOp, ho, Instr.field, run_underlying hu, hf, h2, asAgg, hv], hdv⟩
    · cases hf
  · cases h
def intOfS (s : SV) : Option (IntKind × Int) :=
  match s with
  | .lit (.int k i) => some (k, i)
  | _ => none
theorem intOfS_den {s : SV} {k : IntKind} {i : Int} {ρ : Env} {v : Value} (h : intOfS s = some (k, i)) (hd : den ρ s = some v) : v = .int k i := by
  unfold intOfS at h
  split at h
  · simp at h; simp [den] at hd; rw [← hd, h.1, h.2]
  · cases h
/-- indexAddr -/
def evIndexAddr (P : Program) (t : TypeId) (s ix : SV) : Option SV :=
  match P.underlying t, s, intOfS ix with
  | some (.slice e), .sl n off len _ _, some (_, i) => match szOf P e with
    | some k => if 0 ≤ i ∧ i < (len : Int) then some (.ptr n (off + i.toNat * k)) else none
    | none => none
  | some (.array len e), .ptr n off, some (_, i) => match szOf P e with
    | some k => if 0 ≤ i ∧ i < (len : Int) then some (.ptr n (off + i.toNat * k)) else none
    | none => none
  | _, _, _ => none
theorem ok_indexAddr {t : TypeId} {x y : Operand} {s ix q : SV} (ho : o.op = .indexAddr t x y) (hx : σ x = some s) (hy : σ y = some ix) (h : evIndexAddr P t s ix = some q) : OpOK P base o σ H nx (q, H, nx) := by
  refine ok_still fun ρ a w hσ hs => ?_
  have hd := hσ x (by simp [ho, Op.operands]) s hx
  have hdi := hσ y (by simp [ho, Op.operands]) ix hy
  unfold evIndexAddr at h
  split at h
  · rename_i e n off len cap k' k i hu hi
    split at h
    · rename_i kk hk
      split at h
      · rename_i hb
        injection h with h
        subst h
        have hiv := intOfS_den hi hdi
        cases hr : ρ n with
        | none => simp [den, hr] at hd
        | some p =>
          have hval : ∃ c, a.eval x = .slice (some ⟨p.1, off, none⟩) len c := by
            simp only [den, hr, Option.bind_some] at hd
            split at hd
            · injection hd with hd; exact ⟨_, hd.symm⟩
            · split at hd
              · injection hd with hd; exact ⟨_, hd.symm⟩
              · cases hd
          obtain ⟨c, hc⟩ := hval
          refine ⟨.pointer (some ⟨p.1, off + i.toNat * kk, none⟩), ?_, by simp [den, hr]⟩
          simp [execOp, ho, Instr.indexAt, run_underlying hu, hc, hiv, asIntOf, hb, run_size hk, Addr.add_lit]
      · cases h
    · cases h
  · rename_i len e n off k i hu hi
    split at h
    · rename_i kk hk
      split at h
      · rename_i hb
        injection h with h
        subst h
        have hiv := intOfS_den hi hdi
        cases hr : ρ n with
        | none => simp [den, hr] at hd
        | some p =>
          simp [den, hr] at hd
          refine ⟨.pointer (some ⟨p.1, off + i.toNat * kk, none⟩), ?_, by simp [den, hr]⟩
          simp [execOp, ho, Instr.indexAt, Instr.sureAddr, run_underlying hu, ← hd, hiv, asIntOf, hb, run_size hk, Addr.add_lit]
      · cases h
    · cases h
  · cases h
/-- index -/
def evIndex (P : Program) (t : TypeId) (s ix : SV) : Option SV :=
  match P.underlying t, intOfS ix with
  | some (.array len e), some (_, i) => match s.aggL, szOf P e with
    | some l, some k => if 0 ≤ i ∧ i < (len : Int) then partS P e l (i.toNat * k) else none
    | _, _ => none
  | some .string, some (_, i) => match s with
    | .lit (.string b) => if 0 ≤ i then (b.data.toList[i.toNat]?).map fun c => .lit (.int .u8 c.toNat) else none
    | _ => none
  | _, _ => none
theorem bytes_get (b : ByteArray) (i : Nat) : b[i]? = b.data.toList[i]? := by
  rw [getElem?_def]
  by_cases h : i < b.size
  · have h' : i < b.data.toList.length := by simpa using h
    rw [dif_pos h, List.getElem?_eq_getElem h']
    rfl
  · have h' : b.data.toList.length ≤ i := by simpa using Nat.le_of_not_lt h
    rw [dif_neg h, List.getElem?_eq_none h']
theorem ok_index {t : TypeId} {x y : Operand} {s ix q : SV} (ho : o.op = .index t x y) (hx : σ x = some s) (hy : σ y = some ix) (h : evIndex P t s ix = some q) : OpOK P base o σ H nx (q, H, nx) := by
  refine ok_still fun ρ a w hσ hs => ?_
  have hd := hσ x (by simp [ho, Op.operands]) s hx
  have hdi := hσ y (by simp [ho, Op.operands]) ix hy
  unfold evIndex at h
  split at h
  · rename_i len e k i hu hi
    have hiv := intOfS_den hi hdi
    split at h
    · rename_i l kk hl hk
      split at h
      · rename_i hb
        obtain ⟨vs, h1, h2⟩ := aggL_den hl hd
        obtain ⟨v, hv, hdv⟩ := run_part h h1 w
        refine ⟨v, ?_, hdv⟩
        simp [execOp, ho, Instr.index, run_underlying hu, h2, hiv, asIntOf, hb, run_size hk, hv]
      · cases h
    · cases h
  · rename_i k i hu hi
    have hiv := intOfS_den hi hdi
    split at h
    · rename_i b
      simp [den] at hd
      split at h
      · rename_i hb
        cases hc : b.data.toList[i.toNat]? with
        | none => simp [hc] at h
        | some c =>
          simp only [hc, Option.map_some] at h
          injection h with h
          subst h
          have hc' : b[i.toNat]? = some c := by rw [bytes_get, hc]
          refine ⟨.int .u8 c.toNat, ?_, rfl⟩
          simp [execOp, ho, Instr.index, run_underlying hu, ← hd, hiv, asIntOf, hb, hc']
      · cases h
    · cases h
  · cases h
end
end Ev
end Go.Proofs.YtekhboekiehdhaaGreatDoor
